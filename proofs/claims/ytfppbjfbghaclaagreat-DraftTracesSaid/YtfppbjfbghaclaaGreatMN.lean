/- Layer 3 (plain): what is shown; protected words stay. Layer 3: the law of DraftKept. Layer 3 (plain): what holds of every sheet; a change that is undone at once; when all changes are undone. Layer 3 (plain): what the traces of a sheet are. Layer 3 (plain): words that are seen, words that are lost. Layer 3 (plain): the reference's way to the sources of an item. The intermediate forms of functions of the program (printed by a program of mine), each checked against the code. Layer 3: the reference: Has, of a row that is lent. Layer 3: the reference: Sorted. Layer 3: the reference: Sources. Layer 3: the reference: Traced. Layer 3: the law of DraftTraces. -/
import Derived.Test.YtfppbjfbghaclaaGreatML
import Derived.Test.YtfppbjfbghaclaaGreatMI
import Derived.Test.YtfppbjfbghaclaaGreatMK
import Derived.Test.YtfppbjfbghaclaaGreatMC
import Derived.Test.YtfppbjfbghaclaaGreatProg
import Derived.KernelRfl
set_option linter.unusedSimpArgs false
set_option linter.unusedVariables false
namespace Go.Proofs.YtfppbjfbghaclaaGreat
open Go.Pal Go.RowKit
set_option maxRecDepth 100000
theorem play_inv {d : Dr} {I : Sh → Prop} (hI : ∀ {S S' : Sh} {x : Sp},PosL S → I S → stepF d S x = some S' → I S') : ∀ {steps : List Sp} {S S' : Sh} {i : Nat},PosL S → I S → playF d S steps i = .inr S' → I S' ∧ PosL S'
  | [],S,S',i,hp,h,e => by cases e; exact ⟨h,hp⟩
  | x :: r,S,S',i,hp,h,e => by
    simp only [playF] at e
    split at e
    · rename_i S1 hs
      exact play_inv hI (posL_step hp hs) (hI hp h hs) e
    · cases e
theorem posL_begin (d : Dr) : PosL (beginS d) := ⟨Int.le_refl _,fun n hn => by cases hn⟩
theorem endF_ok {d : Dr} {steps : List Sp} {S : Sh} (h : endF d steps = .ok S) : validF d = true ∧ steps.length ≤ 80 ∧ playF d (beginS d) steps 0 = .inr S := by
  unfold endF at h
  split at h
  · cases h
  · rename_i hv
    split at h
    · cases h
    · split at h
      · cases h
      · rename_i e; cases h; exact ⟨by simpa using hv,by omega,e⟩
end Go.Proofs.YtfppbjfbghaclaaGreat

namespace Go.Proofs.YtfppbjfbghaclaaGreat
open Go.Pal Go.RowKit
set_option maxRecDepth 100000
abbrev lawT (T : Tab Tryz.prog) : Tab Tryz.prog := Tab.cons 15 _ awake15 body15 (Tab.cons 25 _ ready25 body25 (Tab.cons 17 _ draft17 body17 (Tab.cons 18 _ steps18 body18 (Tab.cons 26 _ play26 body26 T))))
end Go.Proofs.YtfppbjfbghaclaaGreat

namespace Go.Proofs.YtfppbjfbghaclaaGreat
open Go.Pal Go.RowKit
set_option maxRecDepth 100000
def It.key (y : It) : ByteArray × Int × Int := (y.t,y.o,y.m)
theorem goneF_key (n : Int) : ∀ (ps : List Nat) (l : List It),(goneF l n ps).map It.key = l.map It.key
  | [],l => rfl
  | p :: ps,l => by
    have e : goneF l n (p :: ps) = goneF (l.set p { l.getD p default with g := n }) n ps := rfl
    rw [e,goneF_key n ps,List.map_set]
    by_cases hp : p < l.length
    · have hgd : l.getD p default = l[p] := by simp [hp]
      rw [hgd]
      have : (l.map It.key)[p]'(by simpa using hp) = It.key l[p] := by simp
      show (l.map It.key).set p (It.key l[p]) = _
      rw [← this,List.set_getElem_self]
    · rw [List.set_eq_of_length_le (by simpa using hp)]
theorem goneF_of (n : Int) : ∀ (ps : List Nat) (l : List It), ∀ y ∈ goneF l n ps, ∃ z ∈ l,y.key = z.key ∧ (y.g = z.g ∨ y.g = n)
  | [],l,y,hy => ⟨y,hy,rfl, .inl rfl⟩
  | p :: ps,l,y,hy => by
    have hy : y ∈ goneF (l.set p { l.getD p default with g := n }) n ps := hy
    obtain ⟨z,hz,h1,h2⟩ := goneF_of n ps _ y hy
    by_cases hp : p < l.length
    · rcases List.mem_or_eq_of_mem_set hz with h3 | rfl
      · exact ⟨z,h3,h1,h2⟩
      · have hgd : l.getD p default = l[p] := by simp [hp]
        refine ⟨l[p],List.getElem_mem hp, ?_, .inr ?_⟩
        · rw [h1,hgd]; rfl
        · rcases h2 with h2 | h2
          · exact h2
          · exact h2
    · rw [List.set_eq_of_length_le (by omega)] at hz
      exact ⟨z,hz,h1,h2⟩
theorem backF_key (n : Int) (y : It) : (backF n y).key = y.key := by unfold backF; split <;> rfl
theorem backF_m (n : Int) (y : It) : (backF n y).m = y.m := by unfold backF; split <;> rfl
theorem key_m {y z : It} (h : y.key = z.key) : y.m = z.m := congrArg (fun k => k.2.2) h
def baseF (l : List It) : List (ByteArray × Int × Int) := (l.map It.key).filter fun k => k.2.2 = 0
structure Rch (d : Dr) (S : Sh) : Prop where
  wf : Inv d.ws.length S
  pos : PosL S
  le : ∀ n ∈ S.live,n ≤ S.ch
  inc : S.live.Pairwise (· < ·)
  gl : ∀ y ∈ S.its,y.g = 0 ∨ y.g ∈ S.live
  ml : ∀ y ∈ S.its,y.m = 0 ∨ y.m ∈ S.live
  base : baseF S.its = (List.range d.ws.length).map fun (i : Nat) => ((d.ws.getD i default).t,(i : Int),0)
theorem rch_begin (d : Dr) : Rch d (beginS d) := by
  refine ⟨inv_begin d,posL_begin d,fun n hn => (by cases hn),List.Pairwise.nil,fun y hy => ?_,fun y hy => ?_, ?_⟩
  · obtain ⟨i,hi,rfl⟩ := List.mem_map.1 hy; exact .inl rfl
  · obtain ⟨i,hi,rfl⟩ := List.mem_map.1 hy; exact .inl rfl
  · show ((List.map _ _).map It.key).filter _ = _
    rw [List.map_map,List.filter_eq_self.2]
    · rfl
    · intro k hk
      obtain ⟨i,hi,rfl⟩ := List.mem_map.1 hk
      rfl
theorem baseF_app (l r : List It) : baseF (l ++ r) = baseF l ++ baseF r := by rw [baseF,List.map_append,List.filter_append]; rfl
theorem rch_step {d : Dr} {S S' : Sh} {x : Sp} (h : Rch d S) (hs : stepF d S x = some S') : Rch d S' := by
  refine ⟨inv_step h.pos.1 h.wf hs,posL_step h.pos hs, ?_, ?_, ?_, ?_, ?_⟩ <;> unfold stepF at hs <;> split at hs
  · unfold changeF at hs
    split at hs
    · cases hs
      intro n hn
      show n ≤ S.ch + 1
      rcases List.mem_append.1 hn with hn | hn
      · have := h.le n hn; omega
      · have : n = S.ch + 1 := by simpa using hn
        omega
    · cases hs
  · unfold undoF at hs
    split at hs
    · cases hs
      exact fun n hn => h.le n (List.mem_filter.1 hn).1
    · cases hs
  · unfold changeF at hs
    split at hs
    · cases hs
      refine List.pairwise_append.2 ⟨h.inc,by simp,fun a ha b hb => ?_⟩
      have : b = S.ch + 1 := by simpa using hb
      have := h.le a ha
      omega
    · cases hs
  · unfold undoF at hs
    split at hs
    · cases hs; exact h.inc.filter _
    · cases hs
  · unfold changeF at hs
    split at hs
    · cases hs
      intro y hy
      show y.g = 0 ∨ y.g ∈ S.live ++ [S.ch + 1]
      have old : y ∈ goneF S.its (S.ch + 1) (cutF S.its x) → y.g = 0 ∨ y.g ∈ S.live ++ [S.ch + 1] := fun hm => by
        obtain ⟨z,hz,_,h2⟩ := goneF_of _ _ _ y hm
        rcases h2 with h2 | h2
        · rw [h2]; exact (h.gl z hz).imp id fun h3 => List.mem_append_left _ h3
        · rw [h2]; exact .inr (by simp)
      rcases List.mem_append.1 hy with hy | hy
      · rcases List.mem_append.1 hy with hy | hy
        · exact old (List.mem_of_mem_take hy)
        · obtain ⟨t,_,rfl⟩ := List.mem_map.1 hy; exact .inl rfl
      · exact old (List.mem_of_mem_drop hy)
    · cases hs
  · unfold undoF at hs
    split at hs
    · cases hs
      intro y hy
      obtain ⟨z,hz,rfl⟩ := List.mem_map.1 hy
      show (backF x.u z).g = 0 ∨ (backF x.u z).g ∈ S.live.filter (· != x.u)
      unfold backF
      split
      · exact .inl rfl
      · rename_i hne
        rcases h.gl z (List.mem_filter.1 hz).1 with h3 | h3
        · exact .inl h3
        · exact .inr (List.mem_filter.2 ⟨h3,by simpa using hne⟩)
    · cases hs
  · unfold changeF at hs
    split at hs
    · cases hs
      intro y hy
      show y.m = 0 ∨ y.m ∈ S.live ++ [S.ch + 1]
      have old : y ∈ goneF S.its (S.ch + 1) (cutF S.its x) → y.m = 0 ∨ y.m ∈ S.live ++ [S.ch + 1] := fun hm => by
        obtain ⟨z,hz,h1,_⟩ := goneF_of _ _ _ y hm
        rw [key_m h1]; exact (h.ml z hz).imp id fun h3 => List.mem_append_left _ h3
      rcases List.mem_append.1 hy with hy | hy
      · rcases List.mem_append.1 hy with hy | hy
        · exact old (List.mem_of_mem_take hy)
        · obtain ⟨t,_,rfl⟩ := List.mem_map.1 hy; exact .inr (by simp)
      · exact old (List.mem_of_mem_drop hy)
    · cases hs
  · unfold undoF at hs
    split at hs
    · cases hs
      intro y hy
      obtain ⟨z,hz,rfl⟩ := List.mem_map.1 hy
      obtain ⟨hz1,hz2⟩ := List.mem_filter.1 hz
      show (backF x.u z).m = 0 ∨ (backF x.u z).m ∈ S.live.filter (· != x.u)
      rw [backF_m]
      rcases h.ml z hz1 with h3 | h3
      · exact .inl h3
      · exact .inr (List.mem_filter.2 ⟨h3,hz2⟩)
    · cases hs
  · unfold changeF at hs
    split at hs
    · cases hs
      show baseF (insF (goneF S.its (S.ch + 1) (cutF S.its x)) (placeF S.its x) (putF (S.ch + 1) x.put)) = _
      have hput : baseF (putF (S.ch + 1) x.put) = [] := by
        rw [baseF,List.filter_eq_nil_iff]
        intro k hk
        simp only [putF,List.map_map,List.mem_map,Function.comp] at hk
        obtain ⟨_,_,rfl⟩ := hk
        have := h.pos.1
        show ¬ decide (S.ch + 1 = 0) = true
        rw [decide_eq_false (by omega)]; decide
      rw [insF,baseF_app,baseF_app,hput,List.append_nil, ← baseF_app,List.take_append_drop,baseF,goneF_key]
      exact h.base
    · cases hs
  · unfold undoF at hs
    split at hs
    · rename_i hu
      cases hs
      have hu1 : 1 ≤ x.u := by
        unfold undoableF at hu
        exact h.pos.2 _ (of_decide_eq_true (Bool.and_eq_true_iff.1 hu).1)
      show baseF ((S.its.filter fun y => y.m != x.u).map (backF x.u)) = _
      rw [← h.base]
      have key : ∀ l : List It,baseF ((l.filter fun y => y.m != x.u).map (backF x.u)) = baseF l := by
        intro l
        rw [baseF,baseF,List.map_map]
        have : (It.key ∘ backF x.u) = It.key := funext fun y => backF_key x.u y
        rw [this,List.filter_map,List.filter_map,List.filter_filter]
        congr 1
        apply List.filter_congr
        intro y _
        simp only [Function.comp,It.key]
        by_cases h0 : y.m = 0
        · simp [h0]; omega
        · simp [h0]
      exact key S.its
    · cases hs
theorem rch_play {d : Dr} {steps : List Sp} {S S' : Sh} {i : Nat} (h : Rch d S) (e : playF d S steps i = .inr S') : Rch d S' :=
  (play_inv (I := Rch d) (fun _ h hs => rch_step h hs) h.pos h e).1
theorem rch_end {d : Dr} {steps : List Sp} {S : Sh} (h : endF d steps = .ok S) : Rch d S := rch_play (rch_begin d) (endF_ok h).2.2
theorem places_g {l : List It} {p : Nat} (h : p ∈ placesF l) : (l.getD p default).g = 0 := by
  simp only [placesF,placesN,List.mem_filter,decide_eq_true_eq] at h; exact h.2
def nCh (steps : List Sp) : Nat := steps.countP fun x => decide (x.u = 0)
theorem ch_step {d : Dr} {S S' : Sh} {x : Sp} (hs : stepF d S x = some S') : S'.ch = S.ch + if x.u = 0 then 1 else 0 := by
  unfold stepF at hs
  split at hs
  · rename_i hu
    unfold changeF at hs
    split at hs
    · cases hs; rw [if_pos hu]
    · cases hs
  · rename_i hu
    unfold undoF at hs
    split at hs
    · cases hs; rw [if_neg hu]; show S.ch = S.ch + 0; omega
    · cases hs
theorem ch_play {d : Dr} : ∀ {steps : List Sp} {S S' : Sh} {i : Nat},playF d S steps i = .inr S' → S'.ch = S.ch + nCh steps
  | [],S,S',i,e => by cases e; simp [nCh]
  | x :: r,S,S',i,e => by
    simp only [playF] at e
    split at e
    · rename_i S1 hs
      have h1 := ch_step hs
      have h2 := ch_play e
      rw [h2,h1,nCh,nCh,List.countP_cons]
      by_cases hu : x.u = 0 <;> simp [hu] <;> omega
    · cases e
theorem ch_end {d : Dr} {steps : List Sp} {S : Sh} (h : endF d steps = .ok S) : S.ch = nCh steps := by
  have := ch_play (endF_ok h).2.2
  rw [this]; show (0 : Int) + _ = _; omega
end Go.Proofs.YtfppbjfbghaclaaGreat

namespace Go.Proofs.YtfppbjfbghaclaaGreat
open Go.Pal Go.RowKit
set_option maxRecDepth 100000
def seenAt (S : Sh) (i : Nat) : It := S.its.getD ((placesF S.its).getD i 0) default
def seenN (S : Sh) : Nat := (placesF S.its).length
theorem traces_n (d : Dr) (S : Sh) : (tracesF d S).length = seenN S := by rw [tracesF,List.length_map]; rfl
theorem traces_at (d : Dr) (S : Sh) {i : Nat} (h : i < (tracesF d S).length) : (tracesF d S)[i] = traceF d (ofF S.its (seenAt S i)) := by
  have h' : i < (placesF S.its).length := by rw [traces_n] at h; exact h
  have e : (placesF S.its).getD i 0 = (placesF S.its)[i] := by rw [List.getD_eq_getElem?_getD,List.getElem?_eq_getElem h']; rfl
  rw [seenAt,e]
  simp only [tracesF,List.getElem_map]
theorem seen_mem {S : Sh} {i : Nat} (h : i < seenN S) : seenAt S i ∈ S.its ∧ (seenAt S i).g = 0 := by
  have h' : i < (placesF S.its).length := h
  have e : (placesF S.its).getD i 0 = (placesF S.its)[i] := by rw [List.getD_eq_getElem?_getD,List.getElem?_eq_getElem h']; rfl
  have hm := List.getElem_mem h'
  rw [← e] at hm
  have hg := places_g hm
  obtain ⟨h1,_⟩ := List.mem_filter.1 hm
  have h2 := List.mem_range.1 h1
  refine ⟨?_,hg⟩
  rw [seenAt,List.getD_eq_getElem?_getD,List.getElem?_eq_getElem h2]
  exact List.getElem_mem h2
theorem seen_n {d : Dr} {steps : List Sp} {S : Sh} (h : endF d steps = .ok S) : seenN S ≤ 1000 := by
  have h1 := (endF_small h).1
  have h2 : seenN S ≤ S.its.length := placesN_le S.its S.its.length
  omega
theorem sec_step {d : Dr} (hv : validF d = true) {j : Nat} (hj : j < d.ws.length) : 0 ≤ (d.ws.getD j default).s ∧ (0 < j → (d.ws.getD (j - 1) default).s ≤ (d.ws.getD j default).s) := by
  have h := ((valid_iff d).1 hv).2.1 j hj
  simp only [rWo,Bool.and_eq_true,inF,decide_eq_true_eq,Bool.not_eq_true',Bool.and_eq_false_iff,decide_eq_false_iff_not] at h
  refine ⟨h.1.1.2.1,fun h0 => ?_⟩
  rcases h.2 with h2 | h2 <;> omega
theorem sec_mono {d : Dr} (hv : validF d = true) (i : Nat) : ∀ (k : Nat),i + k < d.ws.length → (d.ws.getD i default).s ≤ (d.ws.getD (i + k) default).s
  | 0,_ => Int.le_refl _
  | k + 1,h => by
    have h1 := sec_mono hv i k (by omega)
    have h2 := (sec_step hv h).2 (by omega)
    rw [show i + (k + 1) - 1 = i + k by omega] at h2
    exact Int.le_trans h1 h2
theorem word_mono {d : Dr} (hv : validF d = true) {a b : Int} (h0 : 0 ≤ a) (h : a ≤ b) (hb : b < d.ws.length) : (wordAt d a).s ≤ (wordAt d b).s := by
  have := sec_mono hv a.toNat (b.toNat - a.toNat) (by omega)
  rw [show a.toNat + (b.toNat - a.toNat) = b.toNat by omega] at this
  exact this
structure TrOk (d : Dr) (t : Tr) : Prop where
  rng : ∀ x ∈ t.src,0 ≤ x ∧ x < d.ws.length
  inc : t.src.Pairwise (· < ·)
  len : (t.src.length : Int) ≤ d.ws.length
  non : t.src.length = 0 → t.f = -1 ∧ t.l = -1 ∧ t.rep.length = 0
  has : ∀ x ∈ t.src,(wordAt d x).r ∈ t.rep
  first : ∀ h : 0 < t.src.length,t.f = (wordAt d t.src[0]).s
  last : ∀ h : 0 < t.src.length,t.l = (wordAt d (t.src[t.src.length - 1]'(by omega))).s
  le : 0 < t.src.length → t.f ≤ t.l
  rep : t.rep.length ≤ t.src.length
theorem sortF_le (l : List Int) : (sortF l).length ≤ l.length := by
  have h := compact_le (l.mergeSort fun x y => decide (x ≤ y))
  have h2 : (l.mergeSort fun x y => decide (x ≤ y)).length = _ := List.length_mergeSort _
  rw [sortF]
  omega
theorem traceF_ok {d : Dr} (hv : validF d = true) {src : List Int} (hm : ∀ x ∈ src,0 ≤ x ∧ x < d.ws.length) (hp : src.Pairwise (· < ·)) : TrOk d (traceF d src) := by
  have hf : ∀ h : 0 < src.length,fstN d src src.length = (wordAt d src[0]).s := fun h => by
    rw [fstN,if_neg (by omega),List.getD_eq_getElem?_getD,List.getElem?_eq_getElem h]; rfl
  have hl : ∀ h : 0 < src.length,lstN d src src.length = (wordAt d (src[src.length - 1]'(by omega))).s := fun h => by
    rw [lstN,if_neg (by omega),List.getD_eq_getElem?_getD,List.getElem?_eq_getElem (by omega)]; rfl
  refine ⟨hm,hp, ?_,fun h => ?_,fun x hx => ?_,hf,hl,fun h => ?_, ?_⟩
  · have := incr_len hp (fun x hx => hm x hx) (a := 0) (N := d.ws.length) (by omega)
    show (src.length : Int) ≤ _
    omega
  · have : src = [] := List.eq_nil_of_length_eq_zero h
    subst this
    exact ⟨rfl,rfl,Nat.le_zero.1 (sortF_le [])⟩
  · show (wordAt d x).r ∈ sortF (repN d src src.length)
    rw [sortF_mem,repN,List.take_length]
    exact List.mem_map_of_mem (f := fun n => (wordAt d n).r) hx
  · show fstN d src src.length ≤ lstN d src src.length
    have h : 0 < src.length := h
    rw [hf h,hl h]
    have h2 := hm _ (List.getElem_mem (l := src) (n := src.length - 1) (by omega))
    have h1 := hm _ (List.getElem_mem h)
    refine word_mono hv h1.1 ?_ h2.2
    by_cases h3 : src.length = 1
    · have : ∀ k (hk : k < src.length),k = 0 → src[0] ≤ src[k] := fun k hk e => by subst e; exact Int.le_refl _
      exact this _ (by omega) (by omega)
    · exact Int.le_of_lt (List.pairwise_iff_getElem.1 hp 0 (src.length - 1) h (by omega) (by omega))
  · have := sortF_le (repN d src src.length)
    have h2 : (repN d src src.length).length = src.length := by simp [repN]
    show (sortF _).length ≤ src.length
    omega
theorem src_mem {d : Dr} {S : Sh} (hr : Rch d S) {i : Nat} (h : i < seenN S) : ∀ x ∈ ofF S.its (seenAt S i),0 ≤ x ∧ x < d.ws.length :=
  ofF_mem (Inv.wf hr.wf) (Inv.wf hr.wf _ (seen_mem h).1)
theorem ofF_lt {N : Nat} {L : List It} (hw : WfL N L) {y : It} (hy : WfI N y) : (ofF L y).Pairwise (· < ·) := by
  unfold ofF
  split
  · simp
  · rename_i ho
    rcases hy with h | h
    · exact absurd h.1 ho
    · rw [grpF_eq hw h.2.1]; exact sortF_lt _
theorem trace_ok {d : Dr} {S : Sh} (hv : validF d = true) (hr : Rch d S) {i : Nat} (h : i < (tracesF d S).length) : TrOk d (tracesF d S)[i] := by
  have h1 : i < seenN S := by rw [traces_n] at h; exact h
  rw [traces_at d S h]
  exact traceF_ok hv (src_mem hr h1) (ofF_lt (Inv.wf hr.wf) (Inv.wf hr.wf _ (seen_mem h1).1))
end Go.Proofs.YtfppbjfbghaclaaGreat

namespace Go.Proofs.YtfppbjfbghaclaaGreat
open Go.Pal Go.RowKit
set_option maxRecDepth 100000
def PutAll (S : Sh) : Prop := ∀ y ∈ S.its,y.g ≠ 0 → ∃ z ∈ S.its,z.m = y.g
theorem up {d : Dr} {S : Sh} (hr : Rch d S) (hp : PutAll S) : ∀ (f : Nat) (y : It),y ∈ S.its → (S.ch - y.g).toNat ≤ f → ∀ k ∈ ofF S.its y, ∃ z ∈ S.its,z.g = 0 ∧ k ∈ ofF S.its z := fun f => by
  induction f with
  | zero =>
    intro y hy hf k hk
    by_cases hg : y.g = 0
    · exact ⟨y,hy,hg,hk⟩
    · obtain ⟨z,hz,hzm⟩ := hp y hy hg
      obtain ⟨y1,y2,y3,y4⟩ := hr.wf y hy
      obtain ⟨z1,z2,z3,z4⟩ := hr.wf z hz
      have hm1 : 1 ≤ z.m := by rcases y1 with y1 | y1 <;> omega
      have hzo : ¬ 0 ≤ z.o := fun h => by rcases z1 with z1 | z1 <;> omega
      refine ⟨z,hz,by omega, ?_⟩
      rw [ofF,if_neg hzo,grpF_eq (Inv.wf hr.wf) hm1,sortF_mem]
      exact List.mem_flatMap.2 ⟨y,List.mem_filter.2 ⟨hy,decide_eq_true hzm.symm⟩,hk⟩
  | succ f ih =>
    intro y hy hf k hk
    by_cases hg : y.g = 0
    · exact ⟨y,hy,hg,hk⟩
    · obtain ⟨z,hz,hzm⟩ := hp y hy hg
      obtain ⟨y1,y2,y3,y4⟩ := hr.wf y hy
      obtain ⟨z1,z2,z3,z4⟩ := hr.wf z hz
      have hm1 : 1 ≤ z.m := by rcases y1 with y1 | y1 <;> omega
      have hzo : ¬ 0 ≤ z.o := fun h => by rcases z1 with z1 | z1 <;> omega
      have hk2 : k ∈ ofF S.its z := by
        rw [ofF,if_neg hzo,grpF_eq (Inv.wf hr.wf) hm1,sortF_mem]
        exact List.mem_flatMap.2 ⟨y,List.mem_filter.2 ⟨hy,decide_eq_true hzm.symm⟩,hk⟩
      by_cases hz0 : z.g = 0
      · exact ⟨z,hz,hz0,hk2⟩
      · exact ih z hz (by omega) k hk2
theorem srcs_succ {S : Sh} {i : Nat} (h : i < seenN S) : srcsN S (i + 1) = srcsN S i ++ ofF S.its (seenAt S i) := by
  have h' : i < (placesF S.its).length := h
  have e : (placesF S.its).getD i 0 = (placesF S.its)[i] := by rw [List.getD_eq_getElem?_getD,List.getElem?_eq_getElem h']; rfl
  rw [srcsN,srcsN,List.take_add_one,List.getElem?_eq_getElem h',List.flatMap_append,seenAt,e]
  simp
theorem src_at {d : Dr} {S : Sh} {i : Nat} (h : i < (tracesF d S).length) : srcsN S (i + 1) = srcsN S i ++ (tracesF d S)[i].src := by
  rw [traces_at d S h]
  exact srcs_succ (by rw [traces_n] at h; exact h)
end Go.Proofs.YtfppbjfbghaclaaGreat

namespace Go.Proofs.YtfppbjfbghaclaaGreat
open Go.Pal Go.RowKit
set_option maxRecDepth 100000
def WfM (N : Nat) (L : List It) : Prop := WfL N L ∧ ∀ y ∈ L,0 ≤ y.o → y.m = 0
theorem Inv.wfM {N : Nat} {S : Sh} (h : Inv N S) : WfM N S.its := ⟨h.wf,fun y hy h0 => by
  rcases (h y hy).1 with h1 | h1
  · exact h1.2.2
  · omega⟩
structure Gath (L : List It) (m : Int) (i : Nat) (all mk : List Int) : Prop where
  sub : ∀ x ∈ all, ∃ y ∈ L,y.g = m ∧ x ∈ ofF L y
  has : ∀ y ∈ L.take i,y.g = m → ∀ x ∈ ofF L y,x ∈ all
  mks : ∀ n ∈ mk,1 ≤ n → ∀ x ∈ grpF L n,x ∈ all
theorem gath_zero (L : List It) (m : Int) : Gath L m 0 [] [] := ⟨fun x hx => by (cases hx),fun y hy => by (cases hy),fun n hn => by (cases hn)⟩
theorem mem_take_succ {L : List It} {i : Nat} (h : i < L.length) {y : It} : y ∈ L.take (i + 1) ↔ y ∈ L.take i ∨ y = L[i] := by
  rw [List.take_add_one,List.getElem?_eq_getElem h,List.mem_append]; simp
theorem gath_skip {L : List It} {m : Int} {i : Nat} {all mk : List Int} (h : Gath L m i all mk) (hi : i < L.length) (hs : L[i].g ≠ m) : Gath L m (i + 1) all mk :=
  ⟨h.sub,fun y hy hg => by
    rcases (mem_take_succ hi).1 hy with hy | rfl
    · exact h.has y hy hg
    · exact absurd hg hs,h.mks⟩
theorem gath_old {L : List It} {m : Int} {i : Nat} {all mk : List Int} {N : Nat} (hw : WfM N L) (h : Gath L m i all mk) (hi : i < L.length) (ho : ¬ 0 ≤ L[i].o) (hm : L[i].m ∈ mk) : Gath L m (i + 1) all mk :=
  ⟨h.sub,fun y hy hg => by
    rcases (mem_take_succ hi).1 hy with hy | rfl
    · exact h.has y hy hg
    · rcases hw.1 _ (List.getElem_mem hi) with h1 | h1
      · exact absurd h1.1 ho
      · intro x hx
        rw [ofF,if_neg ho] at hx
        exact h.mks _ hm h1.2.1 x hx,h.mks⟩
theorem gath_new {L : List It} {m : Int} {i : Nat} {all mk : List Int} {N : Nat} (hw : WfM N L) (h : Gath L m i all mk) (hi : i < L.length) (hg : L[i].g = m) : Gath L m (i + 1) (all ++ ofF L L[i]) (mk ++ [L[i].m]) :=
  ⟨fun x hx => by
    rcases List.mem_append.1 hx with hx | hx
    · exact h.sub x hx
    · exact ⟨_,List.getElem_mem hi,hg,hx⟩,fun y hy hyg x hx => by
    rcases (mem_take_succ hi).1 hy with hy | rfl
    · exact List.mem_append_left _ (h.has y hy hyg x hx)
    · exact List.mem_append_right _ hx,fun n hn h1 x hx => by
    rcases List.mem_append.1 hn with hn | hn
    · exact List.mem_append_left _ (h.mks n hn h1 x hx)
    · have e : n = L[i].m := by simpa using hn
      subst e
      have ho : ¬ 0 ≤ L[i].o := fun h0 => by have := hw.2 _ (List.getElem_mem hi) h0; omega
      refine List.mem_append_right _ ?_
      rw [ofF,if_neg ho]; exact hx⟩
theorem gath_end {L : List It} {m : Int} {all mk : List Int} {N : Nat} (hw : WfM N L) (h : Gath L m L.length all mk) (hm : 1 ≤ m) : sortF all = grpF L m := by
  rw [grpF_eq hw.1 hm]
  refine incr_uniq (sortF_lt _) (sortF_lt _) fun x => ?_
  rw [sortF_mem,sortF_mem,List.mem_flatMap]
  constructor
  · intro hx
    obtain ⟨y,hy,hg,hxy⟩ := h.sub x hx
    exact ⟨y,List.mem_filter.2 ⟨hy,decide_eq_true hg⟩,hxy⟩
  · rintro ⟨y,hy,hxy⟩
    obtain ⟨hy1,hy2⟩ := List.mem_filter.1 hy
    exact h.has y (by rw [List.take_length]; exact hy1) (of_decide_eq_true hy2) x hxy
end Go.Proofs.YtfppbjfbghaclaaGreat

namespace Go.Proofs.YtfppbjfbghaclaaGreat
open Go.Pal
def ir24b : IC :=
  .seq (.reg 1 1 [o1 4 (.mv (.k (.bool .false))) 1]) (.seq (.seq (.reg 2 1 [o1 5 (.mv (.k (.int .i64 0))) 2]) (.block 0 (.loop (.seq (.seq (.reg 3 4 [o1 6 (.mv (.t 5)) 3,o1 7 (.mv (.t 0)) 4,o1 8 (.len (.t 7)) 5,o1 9 (.bin .lss (.t 6) (.t 8)) 6]) (.cond (.t 9) .skip (.exit 0))) (.seq (.block 1 (.seq
  (.reg 7 6 [o1 12 (.mv (.t 0)) 7,o1 13 (.mv (.t 5)) 8,o1 14 (.iaddr 1 (.t 12) (.t 13)) 9,o1 15 (.load 1 .false (.t 14)) 10,o1 16 (.mv (.t 1)) 11,o1 17 (.bin .eql (.t 15) (.t 16)) 12]) (.cond (.t 17) (.seq (.reg 13 1 [o1 4 (.mv (.k (.bool .true))) 13]) .ret)
  .skip))) (.reg 14 3 [o1 10 (.mv (.t 5)) 14,o1 11 (.bin .add (.t 10) (.k (.int .i64 1))) 15,o1 5 (.mv (.t 11)) 16])))))) (.seq (.reg 17 1 [o1 4 (.mv (.k (.bool .false))) 17]) .ret))
def rs24b : List IRes := [.tmp 4]
set_option maxRecDepth 100000 in
theorem comp24b : CompAt Tryz.prog 24 1 ir24b rs24b 18 := ⟨⟨_,_,18,Tryz.func24,rfl,by kernel_rfl,by kernel_rfl,rfl⟩⟩

end Go.Proofs.YtfppbjfbghaclaaGreat

namespace Go.Proofs.YtfppbjfbghaclaaGreat
open Go.Pal Go.RowKit
set_option maxRecDepth 100000
def hasL (q : List Int) : PSpec := .st (fun args ls _ => ∃ b n cap vs rest x,args = [.slice (some ⟨b,0,none⟩) n cap,I x] ∧ ls = [⟨b,false, .row n n cap vs rest 3 1⟩] ∧ Row intE q n vs) fun args _ v ns _ => ns = [] ∧ ∃ a x,args = [a,I x] ∧ v = .bool (decide (x ∈ q))
theorem has24l (q : List Int) (hb : q.length ≤ 100000) : Sound Tryz.prog 24 id (hasL q) := by
  refine ⟨fun args ls v ns G G' hg h => h,fun args ls G Wd hsub hls hnd hpre => ?_⟩
  obtain ⟨b,n,cap,vs,rest,x,rfl,rfl,hr⟩ := hpre
  have hone := (hls _ (List.mem_singleton.2 rfl)).2.2
  obtain ⟨z1,z2,z3,z4,z5,z6⟩ := id hone
  have hn := hr.n
  have hvl : vs.length = n := by rw [hr.len]; exact Nat.mul_one _
  refine st_sound (Tab.nil _) comp24b (svs := [.c (.row 0 n), .v (I x)]) (obs := [.xrow b n cap vs rest 3 1]) (by simp) hsub hls hnd (Nat.le_refl _) ?_ ?_ ?_
  · exact ⟨⟨rfl,_,_,rfl⟩,(Nat.le_of_ble_eq_true rfl : 0 < 1),rfl,trivial,trivial⟩
  · exact ⟨rfl,trivial⟩
  · have fin : ∀ {bb : Bool},decide (x ∈ q) = bb → ([] : List LB) = [] ∧ ∃ a x',[Value.slice (some ⟨b,0,none⟩) n cap,I x] = [a,I x'] ∧ Value.bool bb = .bool (decide (x' ∈ q)) := fun h => ⟨rfl,_,_,rfl,by rw [h]⟩
    (conv => whnf)
    refine LoopP.of { α := Nat,fr := fun y => [(0, .c (.row 0 n)),(1, .v (I x)),(5, .v (I y))],H := fun _ => [(0, .xrow b n cap vs rest 3 1)],ok := fun i _ => i ≤ q.length ∧ (x ∈ q ↔ x ∈ q.drop i),m := fun y => q.length - y }
      0 (HeadP.of [] ⟨rfl,rfl,rfl,trivial⟩ ⟨rfl,trivial⟩) ⟨Nat.zero_le _,Iff.rfl⟩ (fun _ => ⟨rfl,rfl⟩) (fun (i : Nat) G2 hg2 hx => W.mk ?_)
    obtain ⟨hi,hx⟩ := hx
    dsimp only
    (conv => whnf)
    refine IteP.mk (fun hlt => W.mk ?_) (fun hge => W.mk ?_) <;> (conv => whnf)
    · have h1 : i < q.length := by omega
      rw [List.drop_eq_getElem_cons h1,List.mem_cons] at hx
      repeat' (refine ob ?_ ?_; (first | trivial | omega | (simp only [inR]; omega) | exact ble (by rfl) | exact SlR.some ‹_› (by omega)); (conv => whnf))
      refine EqP.row hr h1 (W.mk ?_)
      generalize q[i] = z at hx
      (conv => whnf)
      refine IteP.mk (fun hq => W.mk ?_) (fun hq => W.mk ?_) <;> (conv => whnf)
      · exact FinS.mk ⟨[],⟨.row n n cap vs rest 3 1,⟨rfl,Nat.le_refl _⟩,⟨rfl,rfl,rfl,rfl,rfl⟩,rfl,rfl⟩,fin (decide_eq_true (hx.2 (.inl hq.symm)))⟩
      · repeat' (refine ob ?_ ?_; (first | trivial | omega | (simp only [inR]; omega) | exact ble (by rfl) | exact SlR.some ‹_› (by omega)); (conv => whnf))
        exact RoundP.of (i + 1) (HeadP.of [] ⟨rfl,rfl,rfl,trivial⟩ ⟨rfl,trivial⟩) ⟨h1,hx.trans ⟨fun h => h.resolve_left fun e => hq e.symm, .inr⟩⟩ (by show q.length - (i + 1) < q.length - i; omega)
    · exact FinS.mk ⟨[],⟨.row n n cap vs rest 3 1,⟨rfl,Nat.le_refl _⟩,⟨rfl,rfl,rfl,rfl,rfl⟩,rfl,rfl⟩,fin (decide_eq_false (fun h => by have := hx.1 h; rw [List.drop_of_length_le (by omega)] at this; cases this))⟩
end Go.Proofs.YtfppbjfbghaclaaGreat

namespace Go.Proofs.YtfppbjfbghaclaaGreat
open Go.Pal Go.RowKit
set_option maxRecDepth 100000
def atK (q : List Int) (x : Int) (k : Nat) : List Int := q.take k ++ x :: q.drop k
theorem atK_len (q : List Int) (x : Int) (k : Nat) : (atK q x k).length = q.length + 1 := by
  rw [atK,List.length_append,List.length_cons,List.length_take,List.length_drop]; omega
theorem atK_at {q : List Int} {x : Int} {k : Nat} (h : k ≤ q.length) (h2 : k < (atK q x k).length) : (atK q x k)[k] = x := by
  have hl : (q.take k).length = k := by rw [List.length_take]; omega
  simp only [atK]
  rw [List.getElem_append_right (by omega)]
  simp [hl]
theorem atK_lt {q : List Int} {x : Int} {k i : Nat} (h : k ≤ q.length) (hi : i < k) (h2 : i < (atK q x k).length) : (atK q x k)[i] = q[i]'(by omega) := by
  have hl : (q.take k).length = k := by rw [List.length_take]; omega
  simp only [atK]
  rw [List.getElem_append_left (by omega),List.getElem_take]
theorem atK_step {q : List Int} {x : Int} {k : Nat} (h : k + 1 ≤ q.length) : ((atK q x (k + 1)).set (k + 1) (q[k]'(by omega))).set k x = atK q x k := by
  have hl : (q.take k).length = k := by rw [List.length_take]; omega
  have e1 : atK q x (k + 1) = q.take k ++ q[k]'(by omega) :: x :: q.drop (k + 1) := by
    rw [atK,List.take_add_one,List.getElem?_eq_getElem (show k < q.length by omega),Option.toList_some,List.append_assoc]; rfl
  have e2 : atK q x k = q.take k ++ x :: q[k]'(by omega) :: q.drop (k + 1) := by
    rw [atK,List.drop_eq_getElem_cons (show k < q.length by omega)]
  rw [e1,e2,List.set_append_right _ _ (by omega),List.set_append_right _ _ (by omega),hl]
  simp [show k + 1 - k = 1 by omega]
theorem atK_mem {q : List Int} {x y : Int} {k : Nat} : y ∈ atK q x k ↔ y = x ∨ y ∈ q := by
  have h : y ∈ q ↔ y ∈ q.take k ∨ y ∈ q.drop k := by
    rw [← List.mem_append,List.take_append_drop]
  rw [atK,List.mem_append,List.mem_cons,h]
  constructor
  · rintro (h1 | h1 | h1)
    · exact .inr (.inl h1)
    · exact .inl h1
    · exact .inr (.inr h1)
  · rintro (h1 | h1 | h1)
    · exact .inr (.inl h1)
    · exact .inl h1
    · exact .inr (.inr h1)
theorem atK_lt_all {q : List Int} {x : Int} {k : Nat} (hk : k ≤ q.length) (hp : q.Pairwise (· < ·)) (hx : x ∉ q) (hd : ∀ y ∈ q.drop k,x < y) (hl : ∀ h : 0 < k,q[k - 1]'(by omega) ≤ x) : (atK q x k).Pairwise (· < ·) := by
  have htd := hp
  rw [← List.take_append_drop k q] at htd
  obtain ⟨p1,p2,p3⟩ := List.pairwise_append.1 htd
  have hlt : ∀ y ∈ q.take k,y < x := fun y hy => by
    obtain ⟨i,hi,rfl⟩ := List.mem_iff_getElem.1 hy
    rw [List.length_take] at hi
    rw [List.getElem_take]
    have h1 := hl (by omega)
    have h2 : q[i] ≤ q[k - 1] := by
      by_cases e : i = k - 1
      · subst e; exact Int.le_refl _
      · exact Int.le_of_lt (List.pairwise_iff_getElem.1 hp i (k - 1) (by omega) (by omega) (by omega))
    have h3 : q[i] ≠ x := fun e => hx (e ▸ List.getElem_mem _)
    omega
  refine List.pairwise_append.2 ⟨p1,List.pairwise_cons.2 ⟨hd,p2⟩,fun a ha b hb => ?_⟩
  rcases List.mem_cons.1 hb with rfl | hb
  · exact hlt a ha
  · exact p3 a ha b hb
def soV : Nat → SV
  | 0 => .v (.slice none 0 0)
  | k + 1 => .c (.row 1 (k + 1))
def soH : Nat → List Value → List (Nat × OB)
  | 0,_ => []
  | k + 1,vs => [(1, .row none (k + 1) vs 3 1)]
theorem row_oneI {q : List Int} {n : Nat} {vs : List Value} (h : Row intE q n vs) : ∀ v ∈ vs,v.oneCell' = true := fun v hv => by
  rw [h.vs] at hv
  obtain ⟨l,hl,hv⟩ := List.mem_flatten.1 hv
  obtain ⟨x,_,rfl⟩ := List.mem_map.1 hl
  have : v = I x := by simpa [intE] using hv
  rw [this]; rfl
set_option maxHeartbeats 4000000 in
theorem sorted52 : Sound Tryz.prog 52 id (grel (args1 (slRd intE) fun l => l.length ≤ 100000) fun l v G => SlV intE G v (sortF l)) := by
  refine comp52.grel (Tab.nil _) (ok1 _ _) (fun args G s h => ?_) (fun x v G G' hg h => h.grow hg) (fun args G l h => ?_)
  · obtain ⟨v,rfl,_⟩ := h; simp
  · obtain ⟨v,rfl,⟨a,n,c,rfl,hl,hn⟩,hb⟩ := h
    have hlen := hl.len
    (conv => whnf)
    refine LoopP.of { α := Nat × Nat × List Int × List Value,fr := fun x => [(0, .v (.slice a n c)),(3,soV x.2.1),(4, .v (I x.1))],H := fun x => soH x.2.1 x.2.2.2,ok := fun x _ => x.1 ≤ l.length ∧ Row intE x.2.2.1 x.2.1 x.2.2.2 ∧ x.2.2.1.Pairwise (· < ·) ∧ (∀ z,z ∈ x.2.2.1 ↔ z ∈ l.take x.1) ∧ x.2.1 ≤ x.1,m := fun x => l.length - x.1 }
      (0,0,[],[]) (HeadP.of [] ⟨rfl,rfl,rfl,trivial⟩ trivial) ⟨Nat.zero_le _,Row.nil,List.Pairwise.nil,fun z => Iff.rfl,Nat.zero_le _⟩ (fun y => ⟨(by obtain ⟨_,k,_⟩ := y; cases k <;> rfl),(by obtain ⟨_,k,_⟩ := y; cases k <;> rfl)⟩) (fun x G1 hg1 hx => W.mk ?_)
    obtain ⟨i,m,q,vs⟩ := x
    obtain ⟨hi,hrow,hinc,hmem,hmi⟩ := hx
    dsimp only at hi hrow hinc hmem hmi
    have hl1 := SlR.grow (G := G) (G' := G1) (fun _ _ h => h) hl hg1
    have hqn := hrow.n
    cases m with
    | zero =>
      dsimp only [soV,soH]
      have hqq : q = [] := List.eq_nil_of_length_eq_zero hqn.symm
      obtain rfl : vs = [] := by rw [hrow.vs,hqq]; rfl
      (conv => whnf)
      refine IteP.mk (fun hlt => W.mk ?_) (fun hge => W.mk ?_) <;> (conv => whnf)
      · have h1 : i < l.length := by omega
        have hce := hl1.el h1
        have htk : ∀ z,z ∈ l.take (i + 1) ↔ z ∈ l.take i ∨ z = l[i] := fun z => by
          rw [List.take_add_one,List.getElem?_eq_getElem h1,List.mem_append]; simp
        generalize l[i] = x at hce htk
        repeat' (first | (refine ob ?_ ?_; (first | trivial | omega | (simp only [inR]; omega) | exact ble (by rfl) | exact SlR.some ‹_› (by omega)); (conv => whnf)) | (first | (refine ra ‹_› (by rfl) ?_; (conv => whnf)) | (refine rb ‹_› (by rfl) ?_; (conv => whnf)) | (refine rc ‹_› (by rfl) ?_; (conv => whnf)) | (refine rd ‹_› (by rfl) ?_; (conv => whnf))))
        refine CallN.mk ⟨_,has24,body24,W.mk ?_⟩
        (conv => whnf)
        refine ScaP.g (ok2 (slRd intE) intRd fun _ _ => True) (x := (([] : List Int),x)) ⟨_,_,rfl,SlV.nil,rfl,trivial⟩ (fun v hv => W.mk ?_)
        subst hv
        dsimp only
        (conv => whnf)
        refine ForkP.mk (fun h => by simp at h) (fun _ => W.mk ?_)
        (conv => whnf)
        repeat' (first | (refine ob ?_ ?_; (first | trivial | omega | (simp only [inR]; omega) | exact ble (by rfl) | exact SlR.some ‹_› (by omega)); (conv => whnf)) | (first | (refine ra ‹_› (by rfl) ?_; (conv => whnf)) | (refine rb ‹_› (by rfl) ?_; (conv => whnf)) | (refine rc ‹_› (by rfl) ?_; (conv => whnf)) | (refine rd ‹_› (by rfl) ?_; (conv => whnf))))
        have hxq : x ∉ q := by rw [hqq]; simp
        have hr0 : Row intE (atK q x (((1 : Nat) : Int) - 1).toNat) 1 [I x] := by
          rw [show (((1 : Nat) : Int) - 1).toNat = q.length by omega,atK,List.take_length,List.drop_of_length_le (Nat.le_refl _)]
          exact hrow.snoc x
        refine LoopP.of { α := Int × List Value,fr := fun y => [(0, .v (.slice a n c)),(3, .c (.row 1 1)),(4, .v (I i)),(5, .v (I y.1))],H := fun y => [(1, .row none 1 y.2 3 1)],ok := fun y _ => 0 ≤ y.1 ∧ y.1 ≤ q.length ∧ Row intE (atK q x y.1.toNat) 1 y.2 ∧ ∀ z ∈ q.drop y.1.toNat,x < z,m := fun y => y.1.toNat }
          (((1 : Nat) : Int) - 1,[I x]) (HeadP.of [(1,some 19)] ⟨rfl,rfl,rfl,rfl,trivial⟩ ⟨rfl,trivial⟩) ⟨by show 0 ≤ ((1 : Nat) : Int) - 1; omega,by show ((1 : Nat) : Int) - 1 ≤ (q.length : Int); omega,hr0,fun z hz => by dsimp only at hz; rw [show (((1 : Nat) : Int) - 1).toNat = q.length by omega,List.drop_of_length_le (Nat.le_refl _)] at hz; cases hz⟩ (fun _ => ⟨rfl,rfl⟩) (fun y G2 hg2 hy => W.mk ?_)
        obtain ⟨k,ws⟩ := y
        obtain ⟨hk0,hk1,hr,hdr⟩ := hy
        dsimp only at hk0 hk1 hr hdr
        have hkn : k.toNat < (atK q x k.toNat).length := by rw [atK_len]; omega
        have hwl : ws.length = 1 := by rw [hr.len]; exact Nat.mul_one _
        have hrn := hr.n
        rw [atK_len] at hrn
        dsimp only
        (conv => whnf)
        repeat' (first | (refine ob ?_ ?_; (first | trivial | omega | (simp only [inR]; omega) | exact ble (by rfl) | exact SlR.some ‹_› (by omega)); (conv => whnf)) | (first | (refine ra ‹_› (by rfl) ?_; (conv => whnf)) | (refine rb ‹_› (by rfl) ?_; (conv => whnf)) | (refine rc ‹_› (by rfl) ?_; (conv => whnf)) | (refine rd ‹_› (by rfl) ?_; (conv => whnf))))
        refine IteP.mk (fun hk => W.mk ?_) (fun hk => W.mk ?_) <;> (conv => whnf)
        · have hk2 : (k - 1).toNat < (atK q x k.toNat).length := by rw [atK_len]; omega
          have ea := atK_at (q := q) (x := x) (by omega) hkn
          have eb := atK_lt (q := q) (x := x) (i := (k - 1).toNat) (by omega) (by omega) hk2
          obtain ⟨z,hz⟩ : ∃ z,z = q[(k - 1).toNat]'(by omega) := ⟨_,rfl⟩
          rw [← hz] at eb
          repeat' (first | (refine ob ?_ ?_; (first | trivial | omega | (simp only [inR]; omega) | exact ble (by rfl) | exact SlR.some ‹_› (by omega)); (conv => whnf)) | (first | (refine ra ‹_› (by rfl) ?_; (conv => whnf)) | (refine rb ‹_› (by rfl) ?_; (conv => whnf)) | (refine rc ‹_› (by rfl) ?_; (conv => whnf)) | (refine rd ‹_› (by rfl) ?_; (conv => whnf))))
          refine EqP.row hr hkn (W.mk ?_)
          rw [ea]
          (conv => whnf)
          repeat' (refine ob ?_ ?_; (first | trivial | omega | (simp only [inR]; omega) | exact ble (by rfl) | exact SlR.some ‹_› (by omega)); (conv => whnf))
          refine EqP.row hr hk2 (W.mk ?_)
          rw [eb]
          (conv => whnf)
          refine IteP.mk (fun hxz => W.mk ?_) (fun hxz => W.mk ?_) <;> (conv => whnf)
          · repeat' (refine ob ?_ ?_; (first | trivial | omega | (simp only [inR]; omega) | exact ble (by rfl) | exact SlR.some ‹_› (by omega)); (conv => whnf))
            refine EqP.row hr hk2 (W.mk ?_)
            rw [eb]
            (conv => whnf)
            repeat' (refine ob ?_ ?_; (first | trivial | omega | (simp only [inR]; omega) | exact ble (by rfl) | exact SlR.some ‹_› (by omega)); (conv => whnf))
            refine EqP.row hr hkn (W.mk ?_)
            rw [ea]
            (conv => whnf)
            have hs1 := Row.setAt hr (i := k.toNat) (us := [I z]) (d := 0) (m := 1) (x := z) hkn (by decide) rfl
            have hl2 : (ws.take (k.toNat * 1) ++ [I z] ++ ws.drop (k.toNat * 1 + 1)).length = 1 := hs1.len.trans (Nat.mul_one _)
            repeat' (first | (refine ob ?_ ?_; (first | trivial | omega | (simp only [inR]; omega) | exact ble (by rfl) | exact SlR.some ‹_› (by omega)); (conv => whnf)) | (refine OblP.mk (by rw [hl2]; omega) (W.mk ?_); (conv => whnf)))
            have hs2 := Row.setAt hs1 (i := (k - 1).toNat) (us := [I x]) (d := 0) (m := 1) (x := x) (by rw [List.length_set]; exact hk2) (by decide) rfl
            have est : ((atK q x k.toNat).set k.toNat z).set (k - 1).toNat x = atK q x (k - 1).toNat := by
              have := atK_step (q := q) (x := x) (k := (k - 1).toNat) (by omega)
              rw [← hz,show (k - 1).toNat + 1 = k.toNat by omega] at this
              exact this
            rw [est] at hs2
            refine RoundP.of (k - 1,_) (HeadP.of [] ⟨rfl,rfl,rfl,rfl,trivial⟩ ⟨rfl,trivial⟩) ⟨by show 0 ≤ k - 1; omega,by show k - 1 ≤ _; omega,hs2,fun y hy => ?_⟩ (by show (k - 1).toNat < k.toNat; omega)
            have hy : y ∈ q.drop (k - 1).toNat := hy
            rw [List.drop_eq_getElem_cons (show (k - 1).toNat < q.length by omega), ← hz,show (k - 1).toNat + 1 = k.toNat by omega] at hy
            rcases List.mem_cons.1 hy with rfl | hy
            · exact hxz
            · exact hdr y hy
          · have hfin := atK_lt_all (q := q) (x := x) (k := k.toNat) (by omega) hinc hxq hdr (fun h => by
              have e : q[k.toNat - 1]'(by omega) = z := by rw [hz]; congr 1; omega
              omega)
            repeat' (first | (refine ob ?_ ?_; (first | trivial | omega | (simp only [inR]; omega) | exact ble (by rfl) | exact SlR.some ‹_› (by omega)); (conv => whnf)) | (first | (refine ra ‹_› (by rfl) ?_; (conv => whnf)) | (refine rb ‹_› (by rfl) ?_; (conv => whnf)) | (refine rc ‹_› (by rfl) ?_; (conv => whnf)) | (refine rd ‹_› (by rfl) ?_; (conv => whnf))))
            exact RoundP.of (i + 1,1,atK q x k.toNat,ws) (HeadP.of [] ⟨rfl,rfl,rfl,trivial⟩ ⟨rfl,trivial⟩) ⟨h1,hr,hfin,fun z => by rw [atK_mem,htk z, ← hmem z]; exact Or.comm,by show 1 ≤ i + 1; omega⟩ (by show l.length - (i + 1) < l.length - i; omega)
        · have hfin := atK_lt_all (q := q) (x := x) (k := k.toNat) (by omega) hinc hxq hdr (fun h => by omega)
          repeat' (first | (refine ob ?_ ?_; (first | trivial | omega | (simp only [inR]; omega) | exact ble (by rfl) | exact SlR.some ‹_› (by omega)); (conv => whnf)) | (first | (refine ra ‹_› (by rfl) ?_; (conv => whnf)) | (refine rb ‹_› (by rfl) ?_; (conv => whnf)) | (refine rc ‹_› (by rfl) ?_; (conv => whnf)) | (refine rd ‹_› (by rfl) ?_; (conv => whnf))))
          exact RoundP.of (i + 1,1,atK q x k.toNat,ws) (HeadP.of [] ⟨rfl,rfl,rfl,trivial⟩ ⟨rfl,trivial⟩) ⟨h1,hr,hfin,fun z => by rw [atK_mem,htk z, ← hmem z]; exact Or.comm,by show 1 ≤ i + 1; omega⟩ (by show l.length - (i + 1) < l.length - i; omega)
      · have hie : i = l.length := by omega
        rw [hie,List.take_length] at hmem
        have hq : sortF l = q := incr_uniq (sortF_lt l) hinc fun z => by rw [sortF_mem,hmem z]
        exact FinP.mk (by rw [hq,hqq]; exact SlV.nil)
    | succ m =>
      dsimp only [soV,soH]
      (conv => whnf)
      refine IteP.mk (fun hlt => W.mk ?_) (fun hge => W.mk ?_) <;> (conv => whnf)
      · have h1 : i < l.length := by omega
        have hce := hl1.el h1
        have htk : ∀ z,z ∈ l.take (i + 1) ↔ z ∈ l.take i ∨ z = l[i] := fun z => by
          rw [List.take_add_one,List.getElem?_eq_getElem h1,List.mem_append]; simp
        generalize l[i] = x at hce htk
        repeat' (first | (refine ob ?_ ?_; (first | trivial | omega | (simp only [inR]; omega) | exact ble (by rfl) | exact SlR.some ‹_› (by omega)); (conv => whnf)) | (first | (refine ra ‹_› (by rfl) ?_; (conv => whnf)) | (refine rb ‹_› (by rfl) ?_; (conv => whnf)) | (refine rc ‹_› (by rfl) ?_; (conv => whnf)) | (refine rd ‹_› (by rfl) ?_; (conv => whnf))))
        refine PubP.opn (Nat.succ_ne_zero m) (fun b cap rest g1 g2 g3 => W.mk ?_)
        (conv => whnf)
        refine CallN.mk ⟨_,has24l q (by omega),body24,W.mk ?_⟩
        (conv => whnf)
        refine StP.mk ⟨[(1,⟨b,false, .row (m + 1) (m + 1) cap vs rest 3 1⟩)],⟨⟨_,_,rfl,rfl,Nat.le_refl _,hrow.len,g3,g1,g2,row_oneI hrow⟩,trivial⟩,by simp,⟨b,_,cap,_,rest,x,rfl,rfl,hrow⟩,fun v ns G2 hg2 hpost => W.mk ?_⟩
        obtain ⟨rfl,_,x',hxe,rfl⟩ := hpost
        simp only [List.cons.injEq,Value.int.injEq,true_and,and_true] at hxe
        obtain ⟨_,rfl⟩ := hxe
        replace hce := CellsAt.grow hg2 hce
        (conv => whnf)
        refine ForkP.mk (fun hin => W.mk ?_) (fun hin => W.mk ?_) <;> (conv => whnf)
        · have hin := of_decide_eq_true hin
          repeat' (first | (refine ForgP.drop (W.mk ?_); (conv => whnf)) | (refine ob ?_ ?_; (first | trivial | omega | (simp only [inR]; omega) | exact ble (by rfl) | exact SlR.some ‹_› (by omega)); (conv => whnf)) | (first | (refine ra ‹_› (by rfl) ?_; (conv => whnf)) | (refine rb ‹_› (by rfl) ?_; (conv => whnf)) | (refine rc ‹_› (by rfl) ?_; (conv => whnf)) | (refine rd ‹_› (by rfl) ?_; (conv => whnf))))
          exact RoundP.of (i + 1,m + 1,q,vs) (HeadP.of [] ⟨rfl,rfl,rfl,trivial⟩ ⟨rfl,trivial⟩) ⟨h1,hrow,hinc,fun z => by rw [htk z, ← hmem z]; exact ⟨.inl,fun h => h.elim id fun e => e ▸ hin⟩,by show m + 1 ≤ i + 1; omega⟩ (by show l.length - (i + 1) < l.length - i; omega)
        · have hxq := of_decide_eq_false hin
          repeat' (first | (refine ForgP.drop (W.mk ?_); (conv => whnf)) | (refine OblP.mk rfl (W.mk ?_); (conv => whnf)) | (refine ob ?_ ?_; (first | trivial | omega | (simp only [inR]; omega) | exact ble (by rfl) | exact SlR.some ‹_› (by omega)); (conv => whnf)) | (first | (refine ra ‹_› (by rfl) ?_; (conv => whnf)) | (refine rb ‹_› (by rfl) ?_; (conv => whnf)) | (refine rc ‹_› (by rfl) ?_; (conv => whnf)) | (refine rd ‹_› (by rfl) ?_; (conv => whnf))))
          have hr0 : Row intE (atK q x (((m + 1 + 1 : Nat) : Int) - 1).toNat) (m + 1 + 1) (vs ++ [I x]) := by
            rw [show (((m + 1 + 1 : Nat) : Int) - 1).toNat = q.length by omega,atK,List.take_length,List.drop_of_length_le (Nat.le_refl _)]
            exact hrow.snoc x
          refine LoopP.of { α := Int × List Value,fr := fun y => [(0, .v (.slice a n c)),(3, .c (.row 1 (m + 1 + 1))),(4, .v (I i)),(5, .v (I y.1))],H := fun y => [(1, .row none (m + 1 + 1) y.2 3 1)],ok := fun y _ => 0 ≤ y.1 ∧ y.1 ≤ q.length ∧ Row intE (atK q x y.1.toNat) (m + 1 + 1) y.2 ∧ ∀ z ∈ q.drop y.1.toNat,x < z,m := fun y => y.1.toNat }
            (((m + 1 + 1 : Nat) : Int) - 1,(vs ++ [I x])) (HeadP.of [(1,some 19)] ⟨rfl,rfl,rfl,rfl,trivial⟩ ⟨rfl,trivial⟩) ⟨by show 0 ≤ ((m + 1 + 1 : Nat) : Int) - 1; omega,by show ((m + 1 + 1 : Nat) : Int) - 1 ≤ (q.length : Int); omega,hr0,fun z hz => by dsimp only at hz; rw [show (((m + 1 + 1 : Nat) : Int) - 1).toNat = q.length by omega,List.drop_of_length_le (Nat.le_refl _)] at hz; cases hz⟩ (fun _ => ⟨rfl,rfl⟩) (fun y G2 hg2 hy => W.mk ?_)
          obtain ⟨k,ws⟩ := y
          obtain ⟨hk0,hk1,hr,hdr⟩ := hy
          dsimp only at hk0 hk1 hr hdr
          have hkn : k.toNat < (atK q x k.toNat).length := by rw [atK_len]; omega
          have hwl : ws.length = (m + 1 + 1) := by rw [hr.len]; exact Nat.mul_one _
          have hrn := hr.n
          rw [atK_len] at hrn
          dsimp only
          (conv => whnf)
          repeat' (first | (refine ob ?_ ?_; (first | trivial | omega | (simp only [inR]; omega) | exact ble (by rfl) | exact SlR.some ‹_› (by omega)); (conv => whnf)) | (first | (refine ra ‹_› (by rfl) ?_; (conv => whnf)) | (refine rb ‹_› (by rfl) ?_; (conv => whnf)) | (refine rc ‹_› (by rfl) ?_; (conv => whnf)) | (refine rd ‹_› (by rfl) ?_; (conv => whnf))))
          refine IteP.mk (fun hk => W.mk ?_) (fun hk => W.mk ?_) <;> (conv => whnf)
          · have hk2 : (k - 1).toNat < (atK q x k.toNat).length := by rw [atK_len]; omega
            have ea := atK_at (q := q) (x := x) (by omega) hkn
            have eb := atK_lt (q := q) (x := x) (i := (k - 1).toNat) (by omega) (by omega) hk2
            obtain ⟨z,hz⟩ : ∃ z,z = q[(k - 1).toNat]'(by omega) := ⟨_,rfl⟩
            rw [← hz] at eb
            repeat' (first | (refine ob ?_ ?_; (first | trivial | omega | (simp only [inR]; omega) | exact ble (by rfl) | exact SlR.some ‹_› (by omega)); (conv => whnf)) | (first | (refine ra ‹_› (by rfl) ?_; (conv => whnf)) | (refine rb ‹_› (by rfl) ?_; (conv => whnf)) | (refine rc ‹_› (by rfl) ?_; (conv => whnf)) | (refine rd ‹_› (by rfl) ?_; (conv => whnf))))
            refine EqP.row hr hkn (W.mk ?_)
            rw [ea]
            (conv => whnf)
            repeat' (refine ob ?_ ?_; (first | trivial | omega | (simp only [inR]; omega) | exact ble (by rfl) | exact SlR.some ‹_› (by omega)); (conv => whnf))
            refine EqP.row hr hk2 (W.mk ?_)
            rw [eb]
            (conv => whnf)
            refine IteP.mk (fun hxz => W.mk ?_) (fun hxz => W.mk ?_) <;> (conv => whnf)
            · repeat' (refine ob ?_ ?_; (first | trivial | omega | (simp only [inR]; omega) | exact ble (by rfl) | exact SlR.some ‹_› (by omega)); (conv => whnf))
              refine EqP.row hr hk2 (W.mk ?_)
              rw [eb]
              (conv => whnf)
              repeat' (refine ob ?_ ?_; (first | trivial | omega | (simp only [inR]; omega) | exact ble (by rfl) | exact SlR.some ‹_› (by omega)); (conv => whnf))
              refine EqP.row hr hkn (W.mk ?_)
              rw [ea]
              (conv => whnf)
              have hs1 := Row.setAt hr (i := k.toNat) (us := [I z]) (d := 0) (m := 1) (x := z) hkn (by decide) rfl
              have hl2 : (ws.take (k.toNat * 1) ++ [I z] ++ ws.drop (k.toNat * 1 + 1)).length = (m + 1 + 1) := hs1.len.trans (Nat.mul_one _)
              repeat' (first | (refine ob ?_ ?_; (first | trivial | omega | (simp only [inR]; omega) | exact ble (by rfl) | exact SlR.some ‹_› (by omega)); (conv => whnf)) | (refine OblP.mk (by rw [hl2]; omega) (W.mk ?_); (conv => whnf)))
              have hs2 := Row.setAt hs1 (i := (k - 1).toNat) (us := [I x]) (d := 0) (m := 1) (x := x) (by rw [List.length_set]; exact hk2) (by decide) rfl
              have est : ((atK q x k.toNat).set k.toNat z).set (k - 1).toNat x = atK q x (k - 1).toNat := by
                have := atK_step (q := q) (x := x) (k := (k - 1).toNat) (by omega)
                rw [← hz,show (k - 1).toNat + 1 = k.toNat by omega] at this
                exact this
              rw [est] at hs2
              refine RoundP.of (k - 1,_) (HeadP.of [] ⟨rfl,rfl,rfl,rfl,trivial⟩ ⟨rfl,trivial⟩) ⟨by show 0 ≤ k - 1; omega,by show k - 1 ≤ _; omega,hs2,fun y hy => ?_⟩ (by show (k - 1).toNat < k.toNat; omega)
              have hy : y ∈ q.drop (k - 1).toNat := hy
              rw [List.drop_eq_getElem_cons (show (k - 1).toNat < q.length by omega), ← hz,show (k - 1).toNat + 1 = k.toNat by omega] at hy
              rcases List.mem_cons.1 hy with rfl | hy
              · exact hxz
              · exact hdr y hy
            · have hfin := atK_lt_all (q := q) (x := x) (k := k.toNat) (by omega) hinc hxq hdr (fun h => by
                have e : q[k.toNat - 1]'(by omega) = z := by rw [hz]; congr 1; omega
                omega)
              repeat' (first | (refine ob ?_ ?_; (first | trivial | omega | (simp only [inR]; omega) | exact ble (by rfl) | exact SlR.some ‹_› (by omega)); (conv => whnf)) | (first | (refine ra ‹_› (by rfl) ?_; (conv => whnf)) | (refine rb ‹_› (by rfl) ?_; (conv => whnf)) | (refine rc ‹_› (by rfl) ?_; (conv => whnf)) | (refine rd ‹_› (by rfl) ?_; (conv => whnf))))
              exact RoundP.of (i + 1,(m + 1 + 1),atK q x k.toNat,ws) (HeadP.of [] ⟨rfl,rfl,rfl,trivial⟩ ⟨rfl,trivial⟩) ⟨h1,hr,hfin,fun z => by rw [atK_mem,htk z, ← hmem z]; exact Or.comm,by show (m + 1 + 1) ≤ i + 1; omega⟩ (by show l.length - (i + 1) < l.length - i; omega)
          · have hfin := atK_lt_all (q := q) (x := x) (k := k.toNat) (by omega) hinc hxq hdr (fun h => by omega)
            repeat' (first | (refine ob ?_ ?_; (first | trivial | omega | (simp only [inR]; omega) | exact ble (by rfl) | exact SlR.some ‹_› (by omega)); (conv => whnf)) | (first | (refine ra ‹_› (by rfl) ?_; (conv => whnf)) | (refine rb ‹_› (by rfl) ?_; (conv => whnf)) | (refine rc ‹_› (by rfl) ?_; (conv => whnf)) | (refine rd ‹_› (by rfl) ?_; (conv => whnf))))
            exact RoundP.of (i + 1,(m + 1 + 1),atK q x k.toNat,ws) (HeadP.of [] ⟨rfl,rfl,rfl,trivial⟩ ⟨rfl,trivial⟩) ⟨h1,hr,hfin,fun z => by rw [atK_mem,htk z, ← hmem z]; exact Or.comm,by show (m + 1 + 1) ≤ i + 1; omega⟩ (by show l.length - (i + 1) < l.length - i; omega)
      · have hie : i = l.length := by omega
        rw [hie,List.take_length] at hmem
        have hq : sortF l = q := incr_uniq (sortF_lt l) hinc fun z => by rw [sortF_mem,hmem z]
        refine PubP.mk (fun ga gc G2 hg2 hp => W.mk ?_)
        (conv => whnf)
        exact FinP.mk (by rw [hq]; exact hrow.pub hp (by omega))
end Go.Proofs.YtfppbjfbghaclaaGreat

namespace Go.Proofs.YtfppbjfbghaclaaGreat
open Go.Pal Go.RowKit
set_option maxRecDepth 100000
def mkV : Nat → SV
  | 0 => .v (.slice none 0 0)
  | k + 1 => .c (.row 11 (k + 1))
def mkH : Nat → List Value → List (Nat × OB)
  | 0,_ => []
  | k + 1,vs => [(11, .row none (k + 1) vs 3 1)]
abbrev srS (N f : Nat) : PSpec := grel (args3 drRd (slRd itE) itRd fun _ L x => L.length ≤ 1000 ∧ WfM N L ∧ WfI N x ∧ (x.o < 0 → x.m.toNat ≤ f)) fun x v G => SlV intE G v (ofF x.2.1 x.2.2)
theorem sources51z {N : Nat} : Sound Tryz.prog 51 id (srS N 0) := by
  refine comp51.grel (Tab.nil _) (ok3 _ _ _ _) (fun args G s h => ?_) (fun x v G G' hg h => h.grow hg) (fun args G s h => ?_)
  · obtain ⟨u,v,w,rfl,_⟩ := h; simp
  · obtain ⟨d,L,x⟩ := s
    obtain ⟨_,_,_,rfl,hd,⟨a,n,c,rfl,hl,hn⟩,rfl,hL,hw,hx,hf⟩ := h
    dsimp only at hd hl hL hw hx hf
    obtain ⟨dw,dk,rfl,hdw,hdk⟩ := id hd
    obtain ⟨wa,wn,wc,rfl,_,_⟩ := id hdw
    obtain ⟨ka,kn,kc,rfl,_,_⟩ := id hdk
    have hlen := hl.len
    dsimp only
    (conv => whnf)
    refine IteP.mk (fun ho => W.mk ?_) (fun ho => W.mk ?_) <;> (conv => whnf)
    · repeat' (first | (refine ob ?_ ?_; (first | trivial | omega | (simp only [inR]; omega) | exact ble (by rfl) | exact SlR.some ‹_› (by omega)); (conv => whnf)) | (first | (refine ra ‹_› (by rfl) ?_; (conv => whnf)) | (refine rb ‹_› (by rfl) ?_; (conv => whnf)) | (refine rc ‹_› (by rfl) ?_; (conv => whnf)) | (refine rd ‹_› (by rfl) ?_; (conv => whnf))))
      refine PubP.mk (fun ga gc G2 hg2 hp => W.mk ?_)
      (conv => whnf)
      exact FinP.mk (by rw [ofF,if_pos ho]; exact hp.slV rfl rfl (by decide))
    exfalso
    have := hf (by omega)
    rcases hx with h1 | h1
    · exact ho h1.1
    · omega
theorem objs_int {G : Hp} {b n cap : Nat} {l : List Int} {vs rest : List Value} (hG : G b = some (.cells (vs ++ rest).toArray 3 (0,0))) (hr : Row intE l n vs) (hc : n ≤ cap) (hb : n ≤ 140737488355328) : SlV intE G (.slice (some ⟨b,0,none⟩) n cap) l := by
  refine PubRow.slV (e := intE) (vs := vs) ⟨hc,fun _ => rfl,fun j v hj => ?_⟩ hr.vs hr.n.symm hb
  have hj2 : j < vs.length := (List.getElem?_eq_some_iff.1 hj).1
  show rd1 _ b (0 + j) = _
  simp only [rd1,hG,Nat.zero_add]
  simp only [List.getElem?_toArray,List.getElem?_append_left hj2,hj]
set_option maxHeartbeats 4000000 in
theorem sources51s {N f : Nat} (hN : N ≤ 60) (ih : Sound Tryz.prog 51 id (srS N f)) : Sound Tryz.prog 51 id (srS N (f + 1)) := by
  refine comp51.grel (Tab.cons 24 _ has24 body24 (Tab.cons 51 _ ih body51 (Tab.cons 52 _ sorted52 body52 (Tab.nil _)))) (ok3 _ _ _ _) (fun args G s h => ?_) (fun x v G G' hg h => h.grow hg) (fun args G s h => ?_)
  · obtain ⟨u,v,w,rfl,_⟩ := h; simp
  · obtain ⟨d,L,x⟩ := s
    obtain ⟨_,_,_,rfl,hd,⟨a,n,c,rfl,hl,hn⟩,rfl,hL,hw,hx,hf⟩ := h
    dsimp only at hd hl hL hw hx hf
    obtain ⟨dw,dk,rfl,hdw,hdk⟩ := id hd
    obtain ⟨wa,wn,wc,rfl,_,_⟩ := id hdw
    obtain ⟨ka,kn,kc,rfl,_,_⟩ := id hdk
    have hlen := hl.len
    dsimp only
    (conv => whnf)
    refine IteP.mk (fun ho => W.mk ?_) (fun ho => W.mk ?_) <;> (conv => whnf)
    · repeat' (first | (refine ob ?_ ?_; (first | trivial | omega | (simp only [inR]; omega) | exact ble (by rfl) | exact SlR.some ‹_› (by omega)); (conv => whnf)) | (first | (refine ra ‹_› (by rfl) ?_; (conv => whnf)) | (refine rb ‹_› (by rfl) ?_; (conv => whnf)) | (refine rc ‹_› (by rfl) ?_; (conv => whnf)) | (refine rd ‹_› (by rfl) ?_; (conv => whnf))))
      refine PubP.mk (fun ga gc G2 hg2 hp => W.mk ?_)
      (conv => whnf)
      exact FinP.mk (by rw [ofF,if_pos ho]; exact hp.slV rfl rfl (by decide))
    have hx1 : 1 ≤ x.m := by
      rcases hx with h1 | h1
      · exact absurd h1.1 ho
      · exact h1.2.1
    have hxf := hf (by omega)
    refine LoopP.of { α := Nat × Nat × List Int × List Value × Nat × List Int × List Value,fr := fun y => [(1, .v (.slice a n c)),(3, .c (.ptr 0 0)),(5, .c (.ptr 1 0)),(7, .c (.row 10 y.2.1)),(8,mkV y.2.2.2.2.1),(9, .v (I y.1))],H := fun y => [(0, .cells .anon [.val (.slice wa wn wc), .val (.slice ka kn kc)] 25),(1, .cells .anon [.val (.string x.t), .val (I x.o), .val (I x.m), .val (I x.g)] 49),(10, .row none y.2.1 y.2.2.2.1 3 1)] ++ mkH y.2.2.2.2.1 y.2.2.2.2.2.2,ok := fun y _ => y.1 ≤ L.length ∧ Row intE y.2.2.1 y.2.1 y.2.2.2.1 ∧ Row intE y.2.2.2.2.2.1 y.2.2.2.2.1 y.2.2.2.2.2.2 ∧ Gath L x.m y.1 y.2.2.1 y.2.2.2.2.2.1 ∧ y.2.1 ≤ y.1 * 61 ∧ y.2.2.2.2.1 ≤ y.1,m := fun y => L.length - y.1 }
      (0,0,[],[],0,[],[]) (HeadP.of [(10,none)] ⟨rfl,rfl,rfl,rfl,rfl,rfl,trivial⟩ ⟨rfl,rfl,rfl,trivial⟩) ⟨Nat.zero_le _,Row.nil,Row.nil,gath_zero _ _,Nat.zero_le _,Nat.zero_le _⟩ (fun y => ⟨(by obtain ⟨_,_,_,_,k,_⟩ := y; cases k <;> rfl),(by obtain ⟨_,_,_,_,k,_⟩ := y; cases k <;> rfl)⟩) (fun y G1 hg1 hy => W.mk ?_)
    obtain ⟨i,n1,all,us,m,mk,vs⟩ := y
    obtain ⟨hi,hra,hrm,hga,hn1,hmi⟩ := hy
    dsimp only at hi hra hrm hga hn1 hmi
    have hl1 := SlR.grow (G := G) (G' := G1) (fun _ _ h => h) hl hg1
    cases m with
    | zero =>
      have hmk0 : mk = [] := List.eq_nil_of_length_eq_zero hrm.n.symm
      obtain rfl : vs = [] := by rw [hrm.vs,hmk0]; rfl
      dsimp only [mkV,mkH,List.cons_append,List.nil_append]
      (conv => whnf)
      refine IteP.mk (fun hlt => W.mk ?_) (fun hge => W.mk ?_) <;> (conv => whnf)
      · have h1 : i < L.length := by omega
        have hce := hl1.el h1
        have hwy := hw.1 _ (List.getElem_mem h1)
        have hoy := ofF_len hw.1 hwy
        have gs := gath_skip hga h1
        have go := gath_old hw hga h1
        have gn := gath_new hw hga h1
        generalize L[i] = y at hce hwy hoy gs go gn
        repeat' (first | (refine ob ?_ ?_; (first | trivial | omega | (simp only [inR]; omega) | exact ble (by rfl) | exact SlR.some ‹_› (by omega)); (conv => whnf)) | (first | (refine ra ‹_› (by rfl) ?_; (conv => whnf)) | (refine rb ‹_› (by rfl) ?_; (conv => whnf)) | (refine rc ‹_› (by rfl) ?_; (conv => whnf)) | (refine rd ‹_› (by rfl) ?_; (conv => whnf))))
        refine IteP.mk (fun hg => W.mk ?_) (fun hg => W.mk ?_) <;> (conv => whnf)
        · repeat' (first | (refine ob ?_ ?_; (first | trivial | omega | (simp only [inR]; omega) | exact ble (by rfl) | exact SlR.some ‹_› (by omega)); (conv => whnf)) | (first | (refine ra ‹_› (by rfl) ?_; (conv => whnf)) | (refine rb ‹_› (by rfl) ?_; (conv => whnf)) | (refine rc ‹_› (by rfl) ?_; (conv => whnf)) | (refine rd ‹_› (by rfl) ?_; (conv => whnf))))
          refine IteP.mk (fun hy0 => W.mk ?_) (fun hy0 => W.mk ?_) <;> (conv => whnf)
          rotate_left
          focus
            repeat' (first | (refine ob ?_ ?_; (first | trivial | omega | (simp only [inR]; omega) | exact ble (by rfl) | exact SlR.some ‹_› (by omega)); (conv => whnf)) | (first | (refine ra ‹_› (by rfl) ?_; (conv => whnf)) | (refine rb ‹_› (by rfl) ?_; (conv => whnf)) | (refine rc ‹_› (by rfl) ?_; (conv => whnf)) | (refine rd ‹_› (by rfl) ?_; (conv => whnf))))
            refine ScaP.g (ok2 (slRd intE) intRd fun _ _ => True) (x := (([] : List Int),y.m)) ⟨_,_,rfl,SlV.nil,rfl,trivial⟩ (fun v hv => W.mk ?_)
            subst hv
            dsimp only
            (conv => whnf)
            refine ForkP.mk (fun h => by simp at h) (fun _ => W.mk ?_)
            (conv => whnf)
          all_goals
            have hrec : y.o < 0 → y.m.toNat ≤ f := fun h => by
              rcases hwy with h2 | ⟨_,h3,h4⟩
              · omega
              · omega
            repeat' (first | (refine ForgP.drop (W.mk ?_); (conv => whnf)) | (refine ob ?_ ?_; (first | trivial | omega | (simp only [inR]; omega) | exact ble (by rfl) | exact SlR.some ‹_› (by omega)); (conv => whnf)) | (first | (refine ra ‹_› (by rfl) ?_; (conv => whnf)) | (refine rb ‹_› (by rfl) ?_; (conv => whnf)) | (refine rc ‹_› (by rfl) ?_; (conv => whnf)) | (refine rd ‹_› (by rfl) ?_; (conv => whnf))))
            refine RelP.g (ok3 drRd (slRd itE) itRd fun _ L x => L.length ≤ 1000 ∧ WfM N L ∧ WfI N x ∧ (x.o < 0 → x.m.toNat ≤ f)) (x := (d,L,y)) ⟨_,_,_,rfl,drRd.grow hg1 hd,⟨_,_,_,rfl,hl1,hn⟩,rfl,hL,hw,hwy,hrec⟩ (Grow.refl _) (fun v G2 hg2 hq => W.mk ?_)
            obtain ⟨sa,sn,sc,rfl,hsl,hsn⟩ := id hq
            dsimp only at hsl
            have hslen := hsl.len
            obtain ⟨q1,q2,q3⟩ := hsl.all
            have hce2 := CellsAt.grow hg2 hce
            (conv => whnf)
            repeat' (first | (refine OblP.mk (fun h => hsl.some h) (W.mk ?_); (conv => whnf)) | (refine RdP.at q1 q2 (W.mk ?_); (conv => whnf)) | (refine OblP.mk q3 (W.mk ?_); (conv => whnf)) | (refine OblP.mk rfl (W.mk ?_); (conv => whnf)) | (refine ForgP.drop (W.mk ?_); (conv => whnf)) | (refine ob ?_ ?_; (first | trivial | omega | (simp only [inR]; omega) | exact ble (by rfl) | exact SlR.some ‹_› (by omega)); (conv => whnf)) | (first | (refine ra ‹_› (by rfl) ?_; (conv => whnf)) | (refine rb ‹_› (by rfl) ?_; (conv => whnf)) | (refine rc ‹_› (by rfl) ?_; (conv => whnf)) | (refine rd ‹_› (by rfl) ?_; (conv => whnf))))
            exact RoundP.of (i + 1,n1 + sn,all ++ ofF L y,us ++ ((ofF L y).map intE.f).flatten,(0 + 1),mk ++ [y.m],([] : List Value) ++ [I y.m]) (HeadP.of [(10,some 51),(11,some 60)] ⟨rfl,rfl,rfl,rfl,rfl,rfl,trivial⟩ ⟨rfl,rfl,rfl,rfl,trivial⟩) ⟨h1,Row.app hra hslen.symm rfl,hrm.snoc y.m,gn hg,by show n1 + sn ≤ (i + 1) * 61; omega,by show (0 + 1) ≤ i + 1; omega⟩ (by show L.length - (i + 1) < L.length - i; omega)
        · repeat' (first | (refine ob ?_ ?_; (first | trivial | omega | (simp only [inR]; omega) | exact ble (by rfl) | exact SlR.some ‹_› (by omega)); (conv => whnf)) | (first | (refine ra ‹_› (by rfl) ?_; (conv => whnf)) | (refine rb ‹_› (by rfl) ?_; (conv => whnf)) | (refine rc ‹_› (by rfl) ?_; (conv => whnf)) | (refine rd ‹_› (by rfl) ?_; (conv => whnf))))
          exact RoundP.of (i + 1,n1,all,us,0,mk,[]) (HeadP.of [] ⟨rfl,rfl,rfl,rfl,rfl,rfl,trivial⟩ ⟨rfl,rfl,rfl,trivial⟩) ⟨h1,hra,hrm,gs hg,by show n1 ≤ (i + 1) * 61; omega,Nat.zero_le _⟩ (by show L.length - (i + 1) < L.length - i; omega)
      · have hie : i = L.length := by omega
        rw [hie] at hga
        have hran := hra.n
        refine PubP.mk (fun ga gc G2 hg2 hp => W.mk ?_)
        (conv => whnf)
        refine RelP.g (ok1 (slRd intE) fun l => l.length ≤ 100000) (x := all) ⟨_,rfl,hra.pub hp (by omega),by omega⟩ (Grow.refl _) (fun v G3 hg3 hq => W.mk ?_)
        obtain ⟨_,_,_,rfl,_,_⟩ := id hq
        (conv => whnf)
        exact FinP.mk (by show SlV intE G3 _ (ofF L x); rw [ofF,if_neg ho, ← gath_end hw hga hx1]; exact hq)
    | succ m =>
      dsimp only [mkV,mkH,List.cons_append,List.nil_append]
      (conv => whnf)
      refine IteP.mk (fun hlt => W.mk ?_) (fun hge => W.mk ?_) <;> (conv => whnf)
      · have h1 : i < L.length := by omega
        have hce := hl1.el h1
        have hwy := hw.1 _ (List.getElem_mem h1)
        have hoy := ofF_len hw.1 hwy
        have gs := gath_skip hga h1
        have go := gath_old hw hga h1
        have gn := gath_new hw hga h1
        generalize L[i] = y at hce hwy hoy gs go gn
        refine PubP.opn (Nat.succ_ne_zero m) (fun b cap rest g1 g2 g3 => W.mk ?_)
        (conv => whnf)
        repeat' (first | (refine ob ?_ ?_; (first | trivial | omega | (simp only [inR]; omega) | exact ble (by rfl) | exact SlR.some ‹_› (by omega)); (conv => whnf)) | (first | (refine ra ‹_› (by rfl) ?_; (conv => whnf)) | (refine rb ‹_› (by rfl) ?_; (conv => whnf)) | (refine rc ‹_› (by rfl) ?_; (conv => whnf)) | (refine rd ‹_› (by rfl) ?_; (conv => whnf))))
        refine IteP.mk (fun hg => W.mk ?_) (fun hg => W.mk ?_) <;> (conv => whnf)
        · repeat' (first | (refine ob ?_ ?_; (first | trivial | omega | (simp only [inR]; omega) | exact ble (by rfl) | exact SlR.some ‹_› (by omega)); (conv => whnf)) | (first | (refine ra ‹_› (by rfl) ?_; (conv => whnf)) | (refine rb ‹_› (by rfl) ?_; (conv => whnf)) | (refine rc ‹_› (by rfl) ?_; (conv => whnf)) | (refine rd ‹_› (by rfl) ?_; (conv => whnf))))
          refine IteP.mk (fun hy0 => W.mk ?_) (fun hy0 => W.mk ?_) <;> (conv => whnf)
          rotate_left
          focus
            repeat' (first | (refine ob ?_ ?_; (first | trivial | omega | (simp only [inR]; omega) | exact ble (by rfl) | exact SlR.some ‹_› (by omega)); (conv => whnf)) | (first | (refine ra ‹_› (by rfl) ?_; (conv => whnf)) | (refine rb ‹_› (by rfl) ?_; (conv => whnf)) | (refine rc ‹_› (by rfl) ?_; (conv => whnf)) | (refine rd ‹_› (by rfl) ?_; (conv => whnf))))
            have hS : ∀ Gx : Hp,Gx b = some (.cells (vs ++ rest).toArray 3 (0,0)) → SlV intE Gx (.slice (some ⟨b,0,none⟩) (m + 1) cap) mk := fun Gx hb => objs_int hb hrm g1 (by omega)
            refine ScaP.mk (fun Gx hgx hob => ⟨(mk,y.m),_,_,rfl,hS Gx (hob (b, .cells (vs ++ rest).toArray 3 (0,0)) (List.Mem.head _)),rfl,trivial⟩) (fun v hv => W.mk ?_)
            obtain ⟨Gx,hgx,hob,z,hz,rfl⟩ := hv
            have : z = (mk,y.m) := (ok2 (slRd intE) intRd fun _ _ => True).uniq _ _ _ _ hz ⟨_,_,rfl,hS Gx (hob (b, .cells (vs ++ rest).toArray 3 (0,0)) (List.Mem.head _)),rfl,trivial⟩
            subst this
            dsimp only
            (conv => whnf)
            refine ForkP.mk (fun hin => W.mk ?_) (fun hin => W.mk ?_) <;> (conv => whnf)
            · repeat' (first | (refine ForgP.drop (W.mk ?_); (conv => whnf)) | (refine ob ?_ ?_; (first | trivial | omega | (simp only [inR]; omega) | exact ble (by rfl) | exact SlR.some ‹_› (by omega)); (conv => whnf)) | (first | (refine ra ‹_› (by rfl) ?_; (conv => whnf)) | (refine rb ‹_› (by rfl) ?_; (conv => whnf)) | (refine rc ‹_› (by rfl) ?_; (conv => whnf)) | (refine rd ‹_› (by rfl) ?_; (conv => whnf))))
              exact RoundP.of (i + 1,n1,all,us,m + 1,mk,vs) (HeadP.of [] ⟨rfl,rfl,rfl,rfl,rfl,rfl,trivial⟩ ⟨rfl,rfl,rfl,rfl,trivial⟩) ⟨h1,hra,hrm,go hy0 (of_decide_eq_true hin),by show n1 ≤ (i + 1) * 61; omega,by show m + 1 ≤ i + 1; omega⟩ (by show L.length - (i + 1) < L.length - i; omega)
          all_goals
            have hrec : y.o < 0 → y.m.toNat ≤ f := fun h => by
              rcases hwy with h2 | ⟨_,h3,h4⟩
              · omega
              · omega
            repeat' (first | (refine ForgP.drop (W.mk ?_); (conv => whnf)) | (refine ob ?_ ?_; (first | trivial | omega | (simp only [inR]; omega) | exact ble (by rfl) | exact SlR.some ‹_› (by omega)); (conv => whnf)) | (first | (refine ra ‹_› (by rfl) ?_; (conv => whnf)) | (refine rb ‹_› (by rfl) ?_; (conv => whnf)) | (refine rc ‹_› (by rfl) ?_; (conv => whnf)) | (refine rd ‹_› (by rfl) ?_; (conv => whnf))))
            refine RelP.g (ok3 drRd (slRd itE) itRd fun _ L x => L.length ≤ 1000 ∧ WfM N L ∧ WfI N x ∧ (x.o < 0 → x.m.toNat ≤ f)) (x := (d,L,y)) ⟨_,_,_,rfl,drRd.grow hg1 hd,⟨_,_,_,rfl,hl1,hn⟩,rfl,hL,hw,hwy,hrec⟩ (Grow.refl _) (fun v G2 hg2 hq => W.mk ?_)
            obtain ⟨sa,sn,sc,rfl,hsl,hsn⟩ := id hq
            dsimp only at hsl
            have hslen := hsl.len
            obtain ⟨q1,q2,q3⟩ := hsl.all
            have hce2 := CellsAt.grow hg2 hce
            (conv => whnf)
            repeat' (first | (refine OblP.mk (fun h => hsl.some h) (W.mk ?_); (conv => whnf)) | (refine RdP.at q1 q2 (W.mk ?_); (conv => whnf)) | (refine OblP.mk q3 (W.mk ?_); (conv => whnf)) | (refine OblP.mk rfl (W.mk ?_); (conv => whnf)) | (refine ForgP.drop (W.mk ?_); (conv => whnf)) | (refine ob ?_ ?_; (first | trivial | omega | (simp only [inR]; omega) | exact ble (by rfl) | exact SlR.some ‹_› (by omega)); (conv => whnf)) | (first | (refine ra ‹_› (by rfl) ?_; (conv => whnf)) | (refine rb ‹_› (by rfl) ?_; (conv => whnf)) | (refine rc ‹_› (by rfl) ?_; (conv => whnf)) | (refine rd ‹_› (by rfl) ?_; (conv => whnf))))
            exact RoundP.of (i + 1,n1 + sn,all ++ ofF L y,us ++ ((ofF L y).map intE.f).flatten,(m + 1 + 1),mk ++ [y.m],vs ++ [I y.m]) (HeadP.of [(10,some 51),(11,some 60)] ⟨rfl,rfl,rfl,rfl,rfl,rfl,trivial⟩ ⟨rfl,rfl,rfl,rfl,trivial⟩) ⟨h1,Row.app hra hslen.symm rfl,hrm.snoc y.m,gn hg,by show n1 + sn ≤ (i + 1) * 61; omega,by show (m + 1 + 1) ≤ i + 1; omega⟩ (by show L.length - (i + 1) < L.length - i; omega)
        · repeat' (first | (refine ForgP.drop (W.mk ?_); (conv => whnf)) | (refine ob ?_ ?_; (first | trivial | omega | (simp only [inR]; omega) | exact ble (by rfl) | exact SlR.some ‹_› (by omega)); (conv => whnf)) | (first | (refine ra ‹_› (by rfl) ?_; (conv => whnf)) | (refine rb ‹_› (by rfl) ?_; (conv => whnf)) | (refine rc ‹_› (by rfl) ?_; (conv => whnf)) | (refine rd ‹_› (by rfl) ?_; (conv => whnf))))
          exact RoundP.of (i + 1,n1,all,us,m + 1,mk,vs) (HeadP.of [] ⟨rfl,rfl,rfl,rfl,rfl,rfl,trivial⟩ ⟨rfl,rfl,rfl,rfl,trivial⟩) ⟨h1,hra,hrm,gs hg,by show n1 ≤ (i + 1) * 61; omega,by show m + 1 ≤ i + 1; omega⟩ (by show L.length - (i + 1) < L.length - i; omega)
      · have hie : i = L.length := by omega
        rw [hie] at hga
        have hran := hra.n
        refine PubP.mk (fun ga gc G2 hg2 hp => W.mk ?_)
        (conv => whnf)
        refine RelP.g (ok1 (slRd intE) fun l => l.length ≤ 100000) (x := all) ⟨_,rfl,hra.pub hp (by omega),by omega⟩ (Grow.refl _) (fun v G3 hg3 hq => W.mk ?_)
        obtain ⟨_,_,_,rfl,_,_⟩ := id hq
        (conv => whnf)
        exact FinP.mk (by show SlV intE G3 _ (ofF L x); rw [ofF,if_neg ho, ← gath_end hw hga hx1]; exact hq)
theorem sources51f {N : Nat} (hN : N ≤ 60) : ∀ f,Sound Tryz.prog 51 id (srS N f)
  | 0 => sources51z
  | f + 1 => sources51s hN (sources51f hN f)
end Go.Proofs.YtfppbjfbghaclaaGreat

namespace Go.Proofs.YtfppbjfbghaclaaGreat
open Go.Pal Go.RowKit
set_option maxRecDepth 100000
theorem wfI_mono {N M : Nat} (h : N ≤ M) {x : It} (hx : WfI N x) : WfI M x := hx.imp (fun h1 => ⟨h1.1,by omega⟩) id
theorem wfM_mono {N M : Nat} (h : N ≤ M) {L : List It} (hw : WfM N L) : WfM M L := ⟨fun y hy => wfI_mono h (hw.1 y hy),hw.2⟩
set_option maxHeartbeats 4000000 in
theorem traced22 : Sound Tryz.prog 22 id (grel (args3 drRd (slRd itE) itRd fun d L x => d.ws.length ≤ 60 ∧ L.length ≤ 1000 ∧ WfM d.ws.length L ∧ WfI d.ws.length x ∧ x.m ≤ 1000) fun x v G => trRd.R G v (traceF x.1 (ofF x.2.1 x.2.2))) := by
  refine comp22.grel (Tab.cons 51 _ (sources51f (Nat.le_refl 60) 1000) body51 (Tab.cons 52 _ sorted52 body52 (Tab.nil _))) (ok3 _ _ _ _) (fun args G s h => ?_) (fun x v G G' hg h => trRd.grow hg h) (fun args G s h => ?_)
  · obtain ⟨u,v,w,rfl,_⟩ := h; simp
  · obtain ⟨d,L,x⟩ := s
    obtain ⟨_,_,_,rfl,hd,⟨a,n,c,rfl,hl,hn⟩,rfl,h60,hL,hw,hx,hm⟩ := h
    dsimp only at hd hl h60 hL hw hx hm
    obtain ⟨dw,dk,rfl,hdw,hdk⟩ := id hd
    obtain ⟨wa,wn,wc,rfl,hwl,_⟩ := id hdw
    obtain ⟨ka,kn,kc,rfl,_,_⟩ := id hdk
    have hwlen := hwl.len
    dsimp only
    (conv => whnf)
    repeat' (first | (refine ob ?_ ?_; (first | trivial | omega | (simp only [inR]; omega) | exact ble (by rfl) | exact SlR.some ‹_› (by omega)); (conv => whnf)) | (first | (refine ra ‹_› (by rfl) ?_; (conv => whnf)) | (refine rb ‹_› (by rfl) ?_; (conv => whnf)) | (refine rc ‹_› (by rfl) ?_; (conv => whnf)) | (refine rd ‹_› (by rfl) ?_; (conv => whnf))))
    refine RelP.g (ok3 drRd (slRd itE) itRd fun _ L x => L.length ≤ 1000 ∧ WfM 60 L ∧ WfI 60 x ∧ (x.o < 0 → x.m.toNat ≤ 1000)) (x := (d,L,x)) ⟨_,_,_,rfl,hd,⟨_,_,_,rfl,hl,hn⟩,rfl,hL,wfM_mono h60 hw,wfI_mono h60 hx,fun _ => by show x.m.toNat ≤ 1000; omega⟩ (Grow.refl _) (fun v G1 hg1 hq => W.mk ?_)
    have hq : SlV intE G1 v (ofF L x) := hq
    have hin := ofF_mem hw.1 hx
    have hsl9 := ofF_len hw.1 hx
    generalize ofF L x = src at hq hin hsl9
    obtain ⟨sa,sn,sc,rfl,hsl,hsn⟩ := id hq
    have hslen := hsl.len
    (conv => whnf)
    repeat' (first | (refine ob ?_ ?_; (first | trivial | omega | (simp only [inR]; omega) | exact ble (by rfl) | exact SlR.some ‹_› (by omega)); (conv => whnf)) | (first | (refine ra ‹_› (by rfl) ?_; (conv => whnf)) | (refine rb ‹_› (by rfl) ?_; (conv => whnf)) | (refine rc ‹_› (by rfl) ?_; (conv => whnf)) | (refine rd ‹_› (by rfl) ?_; (conv => whnf))))
    refine LoopP.of { α := Nat × Int × Int × Nat × List Value,fr := fun y => [(3, .c (.ptr 0 0)),(6, .c (.ptr 2 0)),(7, .c (.ptr 8 0)),(8, .c (.row 10 y.2.2.2.1)),(9, .v (I y.1))],H := fun y => [(0, .cells .anon [.val (.slice wa wn wc), .val (.slice ka kn kc)] 25),(2, .cells .anon [.val (.slice none 0 0), .val (I 0), .val (I 0), .val (.slice none 0 0)] 46),(8, .cells .anon [.val (.slice sa sn sc), .val (I y.2.1), .val (I y.2.2.1), .val (.slice none 0 0)] 46),(10, .row none y.2.2.2.1 y.2.2.2.2 3 1)],ok := fun y _ => y.1 ≤ src.length ∧ y.2.1 = fstN d src y.1 ∧ y.2.2.1 = lstN d src y.1 ∧ Row intE (repN d src y.1) y.2.2.2.1 y.2.2.2.2,m := fun y => src.length - y.1 }
      (0,fstN d src 0,lstN d src 0,0,[]) (HeadP.of [(10,none)] ⟨rfl,rfl,rfl,rfl,rfl,trivial⟩ ⟨rfl,rfl,rfl,rfl,trivial⟩) ⟨Nat.zero_le _,rfl,rfl,Row.nil⟩ (fun _ => ⟨rfl,rfl⟩) (fun y G2 hg2 hy => W.mk ?_)
    obtain ⟨i,vf,vl,m,vs⟩ := y
    obtain ⟨hi,hvf,hvl,hr⟩ := hy
    dsimp only at hi hvf hvl hr
    dsimp only
    have hrn := hr.n
    rw [repN,List.length_map,List.length_take] at hrn
    (conv => whnf)
    repeat' (first | (refine ob ?_ ?_; (first | trivial | omega | (simp only [inR]; omega) | exact ble (by rfl) | exact SlR.some ‹_› (by omega)); (conv => whnf)) | (first | (refine ra ‹_› (by rfl) ?_; (conv => whnf)) | (refine rb ‹_› (by rfl) ?_; (conv => whnf)) | (refine rc ‹_› (by rfl) ?_; (conv => whnf)) | (refine rd ‹_› (by rfl) ?_; (conv => whnf))))
    refine IteP.mk (fun hlt => W.mk ?_) (fun hge => W.mk ?_) <;> (conv => whnf)
    · have h1 : i < src.length := by omega
      have hce := (SlR.grow (G := G1) (G' := G2) (fun _ _ h => h) hsl hg2).el h1
      have hlo := hin src[i] (List.getElem_mem h1)
      have hf1 : fstN d src (i + 1) = if i = 0 then (wordAt d src[i]).s else fstN d src i := by
        unfold fstN
        by_cases h0 : i = 0
        · subst h0; simp [h1]
        · simp [h0]
      have hl1 : lstN d src (i + 1) = (wordAt d src[i]).s := by simp [lstN,h1]
      have hr1 : repN d src (i + 1) = repN d src i ++ [(wordAt d src[i]).r] := by
        rw [repN,List.take_add_one,List.getElem?_eq_getElem h1,List.map_append]; rfl
      have hr2 := hr.snoc (wordAt d src[i]).r
      rw [← hr1] at hr2
      generalize src[i] = y at hce hlo hf1 hl1 hr1 hr2
      have hyw : y.toNat < d.ws.length := by omega
      have hwe := (SlR.grow (G := G) (G' := G2) (fun _ _ h => h) hwl (hg1.trans hg2)).el hyw
      have hwa : wordAt d y = d.ws[y.toNat] := by simp [wordAt,hyw]
      rw [← hwa] at hwe
      generalize wordAt d y = wd at hwe hf1 hl1 hr1 hr2
      repeat' (first | (refine ob ?_ ?_; (first | trivial | omega | (simp only [inR]; omega) | exact ble (by rfl) | exact SlR.some ‹_› (by omega)); (conv => whnf)) | (first | (refine ra ‹_› (by rfl) ?_; (conv => whnf)) | (refine rb ‹_› (by rfl) ?_; (conv => whnf)) | (refine rc ‹_› (by rfl) ?_; (conv => whnf)) | (refine rd ‹_› (by rfl) ?_; (conv => whnf))))
      refine IteP.mk (fun h0 => W.mk ?_) (fun h0 => W.mk ?_) <;> (conv => whnf)
      · repeat' (first | (refine ob ?_ ?_; (first | trivial | omega | (simp only [inR]; omega) | exact ble (by rfl) | exact SlR.some ‹_› (by omega)); (conv => whnf)) | (first | (refine ra ‹_› (by rfl) ?_; (conv => whnf)) | (refine rb ‹_› (by rfl) ?_; (conv => whnf)) | (refine rc ‹_› (by rfl) ?_; (conv => whnf)) | (refine rd ‹_› (by rfl) ?_; (conv => whnf))))
        exact RoundP.of (i + 1,wd.s,wd.s,m + 1,_) (HeadP.of [(10,some 42)] ⟨rfl,rfl,rfl,rfl,rfl,trivial⟩ ⟨rfl,rfl,rfl,rfl,trivial⟩) ⟨h1,by rw [hf1,if_pos (by omega)],hl1.symm,hr2⟩ (by show src.length - (i + 1) < src.length - i; omega)
      · repeat' (first | (refine ob ?_ ?_; (first | trivial | omega | (simp only [inR]; omega) | exact ble (by rfl) | exact SlR.some ‹_› (by omega)); (conv => whnf)) | (first | (refine ra ‹_› (by rfl) ?_; (conv => whnf)) | (refine rb ‹_› (by rfl) ?_; (conv => whnf)) | (refine rc ‹_› (by rfl) ?_; (conv => whnf)) | (refine rd ‹_› (by rfl) ?_; (conv => whnf))))
        exact RoundP.of (i + 1,vf,wd.s,m + 1,_) (HeadP.of [(10,some 42)] ⟨rfl,rfl,rfl,rfl,rfl,trivial⟩ ⟨rfl,rfl,rfl,rfl,trivial⟩) ⟨h1,by rw [hf1,if_neg (by omega)]; exact hvf,hl1.symm,hr2⟩ (by show src.length - (i + 1) < src.length - i; omega)
    · have hie : i = src.length := by omega
      subst hie
      refine PubP.mk (fun ga gc G3 hg3 hp => W.mk ?_)
      (conv => whnf)
      refine RelP.g (ok1 (slRd intE) fun l => l.length ≤ 100000) (x := repN d src src.length) ⟨_,rfl,hr.pub hp (by omega),by simp [repN]; omega⟩ (Grow.refl _) (fun v G4 hg4 hq4 => W.mk ?_)
      have hq4 : SlV intE G4 v (sortF (repN d src src.length)) := hq4
      obtain ⟨_,_,_,rfl,_,_⟩ := id hq4
      (conv => whnf)
      repeat' (first | (refine ob ?_ ?_; (first | trivial | omega | (simp only [inR]; omega) | exact ble (by rfl) | exact SlR.some ‹_› (by omega)); (conv => whnf)) | (first | (refine ra ‹_› (by rfl) ?_; (conv => whnf)) | (refine rb ‹_› (by rfl) ?_; (conv => whnf)) | (refine rc ‹_› (by rfl) ?_; (conv => whnf)) | (refine rd ‹_› (by rfl) ?_; (conv => whnf))))
      subst hvf; subst hvl
      exact FinP.mk ⟨_,_,rfl,hq.grow (hg2.trans (hg3.trans hg4)),hq4⟩
end Go.Proofs.YtfppbjfbghaclaaGreat

namespace Go.Proofs.YtfppbjfbghaclaaGreat
open Go.Pal Go.RowKit
set_option maxRecDepth 100000
theorem lostN_succ (S : Sh) (j : Nat) : lostN S (j + 1) = if (j : Int) ∈ srcsN S (placesF S.its).length then lostN S j else lostN S j ++ [(j : Int)] := by
  rw [lostN,lostN,List.range_succ,List.filter_append,List.map_append]
  split <;> rename_i h <;> simp [h]
theorem lostN_len (S : Sh) (j : Nat) : (lostN S j).length ≤ j := by
  rw [lostN,List.length_map]
  exact Nat.le_trans (List.length_filter_le _ _) (by rw [List.length_range]; exact Nat.le_refl _)
set_option maxHeartbeats 8000000 in
theorem law3 : Sound Tryz.prog 3 id (gsca (args2 duRd suRd fun _ _ => True) fun _ v => v = .bool true) := by
  refine comp3.gsca (Tab.cons 14 _ thin14 body14 (lawT (Tab.cons 16 _ traces16 body16 (Tab.cons 19 _ fault19 body19 (Tab.cons 20 _ rplay20 body20 (Tab.cons 21 _ visible21 body21 (Tab.cons 22 _ traced22 body22 (Tab.cons 23 _ ints23 body23 (Tab.cons 24 _ has24 body24 (Tab.nil _)))))))))) (fun args G s h => ?_) (fun args G x h => ?_)
  · obtain ⟨u,v,rfl,_⟩ := h; simp
  · obtain ⟨d,steps⟩ := x
    obtain ⟨_,_,rfl,hdu,hsu,_⟩ := h
    dsimp only at hdu hsu
    obtain ⟨w,k,rfl,hw,hk⟩ := id hdu
    obtain ⟨wa,wn,wc,rfl,hwl,_⟩ := id hw
    obtain ⟨ka,kn,kc,rfl,hkl,_⟩ := id hk
    obtain ⟨a,n,c,rfl,hst,hn⟩ := id hsu
    have hlen := hst.len
    have hwlen := hwl.len
    (conv => whnf)
    refine ScaP.g (ok2 duRd suRd fun _ _ => True) (x := (d,steps)) ⟨_,_,rfl,hdu,hsu,trivial⟩ (fun v hv => W.mk ?_)
    subst hv
    dsimp only
    (conv => whnf)
    refine ForkP.mk (fun hthin => W.mk ?_) (fun ht => W.mk ?_) <;> (conv => whnf)
    rotate_left
    · (refine ScaP.g okU (G := fun _ => none) (x := ()) rfl (fun v hv => W.mk ?_); subst hv; (conv => whnf); refine ForkP.mk (fun _ => W.mk ?_) (fun h => by cases h); (conv => whnf); exact FinP.mk rfl)
    obtain ⟨t1,t2,t3,t4,t5⟩ := thin_iff.1 hthin
    have hdr := thin_dr hthin hdu
    have hsr := thin_sps hthin hsu
    refine IteP.mk (fun h14 => W.mk ?_) (fun h14 => W.mk ?_) <;> (conv => whnf)
    focus
      refine IteP.mk (fun h80 => W.mk ?_) (fun h80 => W.mk ?_) <;> (conv => whnf)
      · (refine ScaP.g okU (G := fun _ => none) (x := ()) rfl (fun v hv => W.mk ?_); subst hv; (conv => whnf); refine ForkP.mk (fun _ => W.mk ?_) (fun h => by cases h); (conv => whnf); exact FinP.mk rfl)
      clear h80 h14
    all_goals
      refine RelP.g (ok1 drRd fun d => d.ws.length ≤ 100000 ∧ d.ks.length ≤ 100000) (x := d) ⟨_,rfl,hdr,by omega,by omega⟩ (Grow.refl _) (fun v G1 hg1 hq1 => W.mk ?_)
      obtain ⟨_,_,rfl,⟨_,_,_,rfl,_,_⟩,⟨_,_,_,rfl,_,_⟩⟩ := id hq1
      (conv => whnf)
      refine RelP.g (ok1 spsRd fun l => l.length ≤ 100000 ∧ FineS l) (x := steps) ⟨_,rfl,spsRd.grow hg1 hsr,by omega,thin_fine hthin⟩ (Grow.refl _) (fun v G2 hg2 hq2 => W.mk ?_)
      obtain ⟨_,_,_,rfl,_,_⟩ := id hq2
      (conv => whnf)
      refine RelP.g (ok2 drRd spsRd fun _ _ => True) (x := (d,steps)) ⟨_,_,rfl,drRd.grow hg2 hq1,hq2,trivial⟩ (Grow.refl _) (fun v G3 hg3 hq => W.mk ?_)
      unfold tracesR at hq
      dsimp only at hq
      have hG3 := hg1.trans (hg2.trans hg3)
      cases hE : endF d steps with
      | arg =>
        rw [hE] at hq
        subst hq
        (conv => whnf)
        refine ScaP.g (ok2 drRd spsRd fun d steps => thinF d steps = true) (x := (d,steps)) ⟨_,_,rfl,drRd.grow hG3 hdr,spsRd.grow hG3 hsr,hthin⟩ (fun v hv2 => W.mk ?_)
        dsimp only at hv2
        rw [hE] at hv2
        dsimp only [faultOf] at hv2
        subst hv2
        (conv => whnf)
        (refine IteP.mk (fun _ => W.mk ?_) (fun _ => W.mk ?_) <;> first | (exfalso; omega) | (conv => whnf))
        (refine IteP.mk (fun _ => W.mk ?_) (fun _ => W.mk ?_) <;> first | (exfalso; omega) | (conv => whnf))
        (refine IteP.mk (fun _ => W.mk ?_) (fun _ => W.mk ?_) <;> first | (exfalso; omega) | (conv => whnf))
        (refine IteP.mk (fun _ => W.mk ?_) (fun _ => W.mk ?_) <;> first | (exfalso; omega) | (conv => whnf))
        (refine ScaP.g okU (G := fun _ => none) (x := ()) rfl (fun v hv => W.mk ?_); subst hv; (conv => whnf); refine ForkP.mk (fun _ => W.mk ?_) (fun h => by cases h); (conv => whnf); exact FinP.mk rfl)
      | limit =>
        rw [hE] at hq
        subst hq
        (conv => whnf)
        refine ScaP.g (ok2 drRd spsRd fun d steps => thinF d steps = true) (x := (d,steps)) ⟨_,_,rfl,drRd.grow hG3 hdr,spsRd.grow hG3 hsr,hthin⟩ (fun v hv2 => W.mk ?_)
        dsimp only at hv2
        rw [hE] at hv2
        dsimp only [faultOf] at hv2
        subst hv2
        (conv => whnf)
        (refine IteP.mk (fun _ => W.mk ?_) (fun _ => W.mk ?_) <;> first | (exfalso; omega) | (conv => whnf))
        (refine IteP.mk (fun _ => W.mk ?_) (fun _ => W.mk ?_) <;> first | (exfalso; omega) | (conv => whnf))
        (refine IteP.mk (fun _ => W.mk ?_) (fun _ => W.mk ?_) <;> first | (exfalso; omega) | (conv => whnf))
        (refine IteP.mk (fun _ => W.mk ?_) (fun _ => W.mk ?_) <;> first | (exfalso; omega) | (conv => whnf))
        (refine ScaP.g okU (G := fun _ => none) (x := ()) rfl (fun v hv => W.mk ?_); subst hv; (conv => whnf); refine ForkP.mk (fun _ => W.mk ?_) (fun h => by cases h); (conv => whnf); exact FinP.mk rfl)
      | fail kk =>
        rw [hE] at hq
        subst hq
        (conv => whnf)
        refine ScaP.g (ok2 drRd spsRd fun d steps => thinF d steps = true) (x := (d,steps)) ⟨_,_,rfl,drRd.grow hG3 hdr,spsRd.grow hG3 hsr,hthin⟩ (fun v hv2 => W.mk ?_)
        dsimp only at hv2
        rw [hE] at hv2
        dsimp only [faultOf] at hv2
        subst hv2
        (conv => whnf)
        (refine IteP.mk (fun _ => W.mk ?_) (fun _ => W.mk ?_) <;> first | (exfalso; omega) | (conv => whnf))
        (refine IteP.mk (fun _ => W.mk ?_) (fun _ => W.mk ?_) <;> first | (exfalso; omega) | (conv => whnf))
        (refine IteP.mk (fun _ => W.mk ?_) (fun _ => W.mk ?_) <;> first | (exfalso; omega) | (conv => whnf))
        (refine IteP.mk (fun _ => W.mk ?_) (fun _ => W.mk ?_) <;> first | (exfalso; omega) | (conv => whnf))
        (refine ScaP.g okU (G := fun _ => none) (x := ()) rfl (fun v hv => W.mk ?_); subst hv; (conv => whnf); refine ForkP.mk (fun _ => W.mk ?_) (fun h => by cases h); (conv => whnf); exact FinP.mk rfl)
      | ok S =>
        rw [hE] at hq
        obtain ⟨hv,h80,hpl⟩ := endF_ok hE
        have hrch := rch_end hE
        have hsn := seen_n hE
        have hits := (endF_small hE).1
        have hch := ch_end hE
        have hch2 : nCh steps ≤ steps.length := List.countP_le_length
        have h60 := (endF_inv hE).2
        obtain ⟨xu,xv,rfl,htr,hlo⟩ := hq
        obtain ⟨ta,tn,tc,rfl,htl,htn⟩ := id htr
        obtain ⟨oa,on,oc,rfl,hol,hon⟩ := id hlo
        have htlen := htl.len
        rw [traces_n] at htlen
        (conv => whnf)
        refine ScaP.g (ok2 drRd spsRd fun d steps => thinF d steps = true) (x := (d,steps)) ⟨_,_,rfl,drRd.grow hG3 hdr,spsRd.grow hG3 hsr,hthin⟩ (fun v hv2 => W.mk ?_)
        dsimp only at hv2
        rw [hE] at hv2
        dsimp only [faultOf] at hv2
        subst hv2
        (conv => whnf)
        (refine IteP.mk (fun _ => W.mk ?_) (fun _ => W.mk ?_) <;> first | (exfalso; omega) | (conv => whnf))
        refine RelP.g (ok2 drRd spsRd fun d steps => validF d = true ∧ steps.length ≤ 1000 ∧ FineS steps) (x := (d,steps)) ⟨_,_,rfl,drRd.grow hG3 hdr,spsRd.grow hG3 hsr,hv,by show steps.length ≤ _; omega,thin_fine hthin⟩ (Grow.refl _) (fun v G5 hg5 hq => W.mk ?_)
        unfold refPlayR at hq
        dsimp only at hq
        rw [hpl] at hq
        obtain ⟨ya,yb,rfl,hy1,hy2⟩ := hq
        obtain ⟨ia,im,ic,rfl,hil,hin⟩ := id hy1
        obtain ⟨_,_,_,rfl,_,_⟩ := id hy2
        have hilen := hil.len
        (conv => whnf)
        refine RelP.g (ok1 (slRd itE) fun l => l.length ≤ 100000) (x := S.its) ⟨_,rfl,hy1,by show S.its.length ≤ _; omega⟩ (Grow.refl _) (fun v G6 hg6 hq => W.mk ?_)
        obtain ⟨va,vn,vc,rfl,hvl,hvn⟩ := id hq
        have hvlen := hvl.len
        have hpn : (placesF S.its).length = seenN S := rfl
        have hG6 := hG3.trans (hg5.trans hg6)
        have hd6 := drRd.grow hG6 hdr
        have hw6 := SlR.grow (G := G) (G' := G6) (fun _ _ h => h) hwl hG6
        have ht6 := trsRd.grow (hg5.trans hg6) htr
        have hlo6 := SlV.grow (hg5.trans hg6) hlo
        have hi6 := SlR.grow (G := G5) (G' := G6) (fun _ _ h => h) hil hg6
        (conv => whnf)
        (refine IteP.mk (fun _ => W.mk ?_) (fun _ => W.mk ?_) <;> first | (exfalso; omega) | (conv => whnf))
        (refine IteP.mk (fun _ => W.mk ?_) (fun _ => W.mk ?_) <;> first | (exfalso; omega) | (conv => whnf))
        refine LoopP.of { α := Nat × Nat × List Value,fr := fun x => [(2, .c (.ptr 0 0)),(5, .v (.slice ta tn tc)),(6, .v (.slice oa on oc)),(10, .v (.slice ia im ic)),(13, .v (.slice va vn vc)),(14, .c (.row 80 x.2.1)),(15, .c (.row 81 0)),(16, .v (I x.1))],H := fun x => [(0, .cells .anon [.val (.slice wa wn wc), .val (.slice ka kn kc)] 25),(80, .row none x.2.1 x.2.2 3 1),(81, .row none 0 [] 3 1)],ok := fun x _ => x.1 ≤ seenN S ∧ Row intE (srcsN S x.1) x.2.1 x.2.2 ∧ x.2.1 ≤ x.1 * 61,m := fun x => seenN S - x.1 }
          (0,0,[]) (HeadP.of [(80,none),(81,none)] ⟨rfl,rfl,rfl,rfl,rfl,rfl,rfl,rfl,trivial⟩ ⟨rfl,rfl,rfl,trivial⟩) ⟨Nat.zero_le _,Row.nil,Nat.zero_le _⟩ (fun _ => ⟨rfl,rfl⟩) (fun x G7 hg7 hx => W.mk ?_)
        obtain ⟨i,n1,us⟩ := x
        obtain ⟨hi,hra,hn1⟩ := hx
        dsimp only at hi hra hn1
        dsimp only
        (conv => whnf)
        refine IteP.mk (fun hlt => W.mk ?_) (fun hge => W.mk ?_) <;> (conv => whnf)
        · have h1 : i < seenN S := by omega
          have h1t : i < (tracesF d S).length := by rw [traces_n]; exact h1
          have h1p : i < (placesF S.its).length := h1
          have hcp := (SlR.grow (G := G6) (G' := G7) (fun _ _ h => h) hvl hg7).el h1p
          have hpe : seenAt S i = S.its.getD (placesF S.its)[i] default := by rw [seenAt,List.getD_eq_getElem?_getD (l := placesF S.its),List.getElem?_eq_getElem h1p]; rfl
          have hplt := List.mem_range.1 (List.mem_filter.1 (List.getElem_mem h1p)).1
          have hyi := (seen_mem h1).1
          have hok := trace_ok hv hrch h1t
          have hsa := src_at h1t
          have hta := traces_at d S h1t
          generalize (placesF S.its)[i] = p at hcp hpe hplt
          have hyp : S.its.getD p default = S.its[p] := by rw [List.getD_eq_getElem?_getD,List.getElem?_eq_getElem hplt]; rfl
          rw [hyp] at hpe
          have hci := (SlR.grow (G := G6) (G' := G7) (fun _ _ h => h) hi6 hg7).el hplt
          rw [← hpe] at hci
          have hyw := (Inv.wf hrch.wf) _ hyi
          have hym := (hrch.wf _ hyi).2.2.1
          generalize seenAt S i = y at hci hyi hta hyw hym
          obtain ⟨_,_,_,e,htl7,_⟩ := trsRd.grow hg7 ht6
          cases e
          obtain ⟨cs,c1,c2,sa,sb,rfl,hs1,hs2⟩ := htl7.at_ i h1t
          obtain ⟨saa,san,sac,rfl,_,_⟩ := id hs1
          obtain ⟨sba,sbn,sbc,rfl,_,_⟩ := id hs2
          repeat' (first | (refine ob ?_ ?_; (first | trivial | omega | (simp only [inR]; omega) | exact ble (by rfl) | exact SlR.some ‹_› (by omega)); (conv => whnf)) | (first | (refine ra ‹_› (by rfl) ?_; (conv => whnf)) | (refine rb ‹_› (by rfl) ?_; (conv => whnf)) | (refine rc ‹_› (by rfl) ?_; (conv => whnf)) | (refine rd ‹_› (by rfl) ?_; (conv => whnf))))
          refine RelP.g (ok3 drRd (slRd itE) itRd fun d L x => d.ws.length ≤ 60 ∧ L.length ≤ 1000 ∧ WfM d.ws.length L ∧ WfI d.ws.length x ∧ x.m ≤ 1000) (x := (d,S.its,y)) ⟨_,_,_,rfl,drRd.grow hg7 hd6,⟨_,_,_,rfl,SlR.grow (G := G6) (G' := G7) (fun _ _ h => h) hi6 hg7,hin⟩,rfl,h60,by show S.its.length ≤ _; omega,Inv.wfM hrch.wf,hyw,by show y.m ≤ 1000; omega⟩ (Grow.refl _) (fun v G8 hg8 hq => W.mk ?_)
          have hq : trRd.R G8 v (traceF d (ofF S.its y)) := hq
          rw [← hta] at hq
          generalize (tracesF d S)[i] = t at hq hok hsa c2 hs1 hs2
          obtain ⟨za,zb,rfl,hz1,hz2⟩ := hq
          obtain ⟨zaa,zan,zac,rfl,hzl,_⟩ := id hz1
          obtain ⟨zba,zbn,zbc,rfl,_,_⟩ := id hz2
          have c28 := CellsAt.grow hg8 c2
          have hzlen := hzl.len
          obtain ⟨q1,q2,q3⟩ := hzl.all
          have htsl := hok.len
          (conv => whnf)
          repeat' (first | (refine ob ?_ ?_; (first | trivial | omega | (simp only [inR]; omega) | exact ble (by rfl) | exact SlR.some ‹_› (by omega)); (conv => whnf)) | (first | (refine ra ‹_› (by rfl) ?_; (conv => whnf)) | (refine rb ‹_› (by rfl) ?_; (conv => whnf)) | (refine rc ‹_› (by rfl) ?_; (conv => whnf)) | (refine rd ‹_› (by rfl) ?_; (conv => whnf))))
          refine ScaP.g (ok2 (slRd intE) (slRd intE) fun _ _ => True) (x := (t.src,t.src)) ⟨_,_,rfl,SlV.grow hg8 hs1,hz1,trivial⟩ (fun v hv2 => W.mk ?_)
          have hv2 : v = .bool true := hv2.trans (congrArg Value.bool (decide_eq_true rfl))
          subst hv2
          (conv => whnf)
          refine ForkP.mk (fun _ => W.mk ?_) (fun h => by cases h)
          (conv => whnf)
          repeat' (first | (refine ob ?_ ?_; (first | trivial | omega | (simp only [inR]; omega) | exact ble (by rfl) | exact SlR.some ‹_› (by omega)); (conv => whnf)) | (first | (refine ra ‹_› (by rfl) ?_; (conv => whnf)) | (refine rb ‹_› (by rfl) ?_; (conv => whnf)) | (refine rc ‹_› (by rfl) ?_; (conv => whnf)) | (refine rd ‹_› (by rfl) ?_; (conv => whnf))))
          (refine IteP.mk (fun _ => W.mk ?_) (fun _ => W.mk ?_) <;> first | (exfalso; omega) | (conv => whnf))
          repeat' (first | (refine ob ?_ ?_; (first | trivial | omega | (simp only [inR]; omega) | exact ble (by rfl) | exact SlR.some ‹_› (by omega)); (conv => whnf)) | (first | (refine ra ‹_› (by rfl) ?_; (conv => whnf)) | (refine rb ‹_› (by rfl) ?_; (conv => whnf)) | (refine rc ‹_› (by rfl) ?_; (conv => whnf)) | (refine rd ‹_› (by rfl) ?_; (conv => whnf))))
          (refine IteP.mk (fun _ => W.mk ?_) (fun _ => W.mk ?_) <;> first | (exfalso; omega) | (conv => whnf))
          repeat' (first | (refine ob ?_ ?_; (first | trivial | omega | (simp only [inR]; omega) | exact ble (by rfl) | exact SlR.some ‹_› (by omega)); (conv => whnf)) | (first | (refine ra ‹_› (by rfl) ?_; (conv => whnf)) | (refine rb ‹_› (by rfl) ?_; (conv => whnf)) | (refine rc ‹_› (by rfl) ?_; (conv => whnf)) | (refine rd ‹_› (by rfl) ?_; (conv => whnf))))
          refine ScaP.g (ok2 (slRd intE) (slRd intE) fun _ _ => True) (x := (t.rep,t.rep)) ⟨_,_,rfl,SlV.grow hg8 hs2,hz2,trivial⟩ (fun v hv2 => W.mk ?_)
          have hv2 : v = .bool true := hv2.trans (congrArg Value.bool (decide_eq_true rfl))
          subst hv2
          (conv => whnf)
          refine ForkP.mk (fun _ => W.mk ?_) (fun h => by cases h)
          (conv => whnf)
          repeat' (first | (refine OblP.mk (fun h => hzl.some h) (W.mk ?_); (conv => whnf)) | (refine RdP.at q1 q2 (W.mk ?_); (conv => whnf)) | (refine OblP.mk q3 (W.mk ?_); (conv => whnf)) | (refine OblP.mk rfl (W.mk ?_); (conv => whnf)) | (refine ob ?_ ?_; (first | trivial | omega | (simp only [inR]; omega) | exact ble (by rfl) | exact SlR.some ‹_› (by omega)); (conv => whnf)) | (first | (refine ra ‹_› (by rfl) ?_; (conv => whnf)) | (refine rb ‹_› (by rfl) ?_; (conv => whnf)) | (refine rc ‹_› (by rfl) ?_; (conv => whnf)) | (refine rd ‹_› (by rfl) ?_; (conv => whnf))))
          exact RoundP.of (i + 1,n1 + zan,us ++ (t.src.map intE.f).flatten) (HeadP.of [(80,some 143)] ⟨rfl,rfl,rfl,rfl,rfl,rfl,rfl,rfl,trivial⟩ ⟨rfl,rfl,rfl,trivial⟩) ⟨h1,by show Row intE (srcsN S (i + 1)) _ _; rw [hsa]; exact Row.app hra hzlen.symm rfl,by show n1 + zan ≤ (i + 1) * 61; omega⟩ (by show seenN S - (i + 1) < seenN S - i; omega)
        · have hie : i = seenN S := by omega
          rw [hie] at hra
          refine LoopP.of { α := Nat × Option (Option Addr × Nat) × Nat × List Value,fr := fun x => [(2, .c (.ptr 0 0)),(6, .v (.slice oa on oc)),(14, .c (.row 80 n1)),(15, .c (.row 81 x.2.2.1)),(18, .v (I x.1))],H := fun x => [(0, .cells .anon [.val (.slice wa wn wc), .val (.slice ka kn kc)] 25),(80, .row (match x.2.1 with | none => none | some p => some (.slice p.1 n1 p.2)) n1 us 3 1),(81, .row none x.2.2.1 x.2.2.2 3 1)],ok := fun x G => x.1 ≤ wn ∧ Row intE (lostN S x.1) x.2.2.1 x.2.2.2 ∧ ∀ p,x.2.1 = some p → SlV intE G (.slice p.1 n1 p.2) (srcsN S (seenN S)),m := fun x => wn - x.1 }
            (0,none,0,[]) (HeadP.of [] ⟨rfl,rfl,rfl,rfl,rfl,trivial⟩ ⟨rfl,rfl,rfl,trivial⟩) ⟨Nat.zero_le _,Row.nil,fun p h => by cases h⟩ (fun y => ⟨rfl,rfl⟩) (fun x G8 hg8 hx => W.mk ?_)
          obtain ⟨j,pv,m,ws⟩ := x
          obtain ⟨hj,hrg,hpv⟩ := hx
          dsimp only at hj hrg hpv
          have hlm := lostN_len S j
          have hmn := hrg.n
          have hls := lostN_succ S j
          rw [hpn] at hls
          cases pv with
          | none =>
            dsimp only
            (conv => whnf)
            refine IteP.mk (fun hlt => W.mk ?_) (fun hge => W.mk ?_) <;> (conv => whnf)
            · refine PubP.mk (fun ga gc G9 hg9 hp => W.mk ?_)
              have hq9 : SlV intE G9 (.slice ga n1 gc) (srcsN S (seenN S)) := hra.pub hp (by omega)
              (conv => whnf)
              refine ScaP.g (ok2 (slRd intE) intRd fun _ _ => True) (x := (srcsN S (seenN S),(j : Int))) ⟨_,_,rfl,hq9,rfl,trivial⟩ (fun v hv2 => W.mk ?_)
              subst hv2
              dsimp only
              (conv => whnf)
              refine ForkP.mk (fun hm => W.mk ?_) (fun hm => W.mk ?_) <;> (conv => whnf)
              · rw [if_pos (of_decide_eq_true hm)] at hls
                rw [← hls] at hrg
                repeat' (first | (refine ob ?_ ?_; (first | trivial | omega | (simp only [inR]; omega) | exact ble (by rfl) | exact SlR.some ‹_› (by omega)); (conv => whnf)) | (first | (refine ra ‹_› (by rfl) ?_; (conv => whnf)) | (refine rb ‹_› (by rfl) ?_; (conv => whnf)) | (refine rc ‹_› (by rfl) ?_; (conv => whnf)) | (refine rd ‹_› (by rfl) ?_; (conv => whnf))))
                exact RoundP.of (j + 1,some (ga,gc),m,ws) (HeadP.of [] ⟨rfl,rfl,rfl,rfl,rfl,trivial⟩ ⟨rfl,rfl,rfl,trivial⟩) ⟨by show j + 1 ≤ wn; omega,hrg,fun p h => by cases h; exact hq9⟩ (by show wn - (j + 1) < wn - j; omega)
              · rw [if_neg (of_decide_eq_false hm)] at hls
                have hrg2 := hrg.snoc (j : Int)
                rw [← hls] at hrg2
                repeat' (first | (refine ob ?_ ?_; (first | trivial | omega | (simp only [inR]; omega) | exact ble (by rfl) | exact SlR.some ‹_› (by omega)); (conv => whnf)) | (first | (refine ra ‹_› (by rfl) ?_; (conv => whnf)) | (refine rb ‹_› (by rfl) ?_; (conv => whnf)) | (refine rc ‹_› (by rfl) ?_; (conv => whnf)) | (refine rd ‹_› (by rfl) ?_; (conv => whnf))))
                exact RoundP.of (j + 1,some (ga,gc),m + 1,_) (HeadP.of [(81,some 161)] ⟨rfl,rfl,rfl,rfl,rfl,trivial⟩ ⟨rfl,rfl,rfl,trivial⟩) ⟨by show j + 1 ≤ wn; omega,hrg2,fun p h => by cases h; exact hq9⟩ (by show wn - (j + 1) < wn - j; omega)
            · have hje : j = d.ws.length := by omega
              rw [hje] at hrg
              refine PubP.mk (fun ga gc G9 hg9 hp => W.mk ?_)
              (conv => whnf)
              refine ScaP.g (ok2 (slRd intE) (slRd intE) fun _ _ => True) (x := (lostF d S,lostN S d.ws.length)) ⟨_,_,rfl,SlV.grow (hg7.trans (hg8.trans hg9)) hlo6,hrg.pub hp (by omega),trivial⟩ (fun v hv2 => W.mk ?_)
              have hv2 : v = .bool true := hv2.trans (congrArg Value.bool (decide_eq_true rfl))
              subst hv2
              (conv => whnf)
              refine ForkP.mk (fun _ => W.mk ?_) (fun h => by cases h)
              (conv => whnf)
              (refine ScaP.g okU (G := fun _ => none) (x := ()) rfl (fun v hv => W.mk ?_); subst hv; (conv => whnf); refine ForkP.mk (fun _ => W.mk ?_) (fun h => by cases h); (conv => whnf); exact FinP.mk rfl)
          | some p =>
            obtain ⟨ga,gc⟩ := p
            have hq9 := hpv _ rfl
            dsimp only
            (conv => whnf)
            refine IteP.mk (fun hlt => W.mk ?_) (fun hge => W.mk ?_) <;> (conv => whnf)
            · refine ScaP.g (ok2 (slRd intE) intRd fun _ _ => True) (x := (srcsN S (seenN S),(j : Int))) ⟨_,_,rfl,hq9,rfl,trivial⟩ (fun v hv2 => W.mk ?_)
              subst hv2
              dsimp only
              (conv => whnf)
              refine ForkP.mk (fun hm => W.mk ?_) (fun hm => W.mk ?_) <;> (conv => whnf)
              · rw [if_pos (of_decide_eq_true hm)] at hls
                rw [← hls] at hrg
                repeat' (first | (refine ob ?_ ?_; (first | trivial | omega | (simp only [inR]; omega) | exact ble (by rfl) | exact SlR.some ‹_› (by omega)); (conv => whnf)) | (first | (refine ra ‹_› (by rfl) ?_; (conv => whnf)) | (refine rb ‹_› (by rfl) ?_; (conv => whnf)) | (refine rc ‹_› (by rfl) ?_; (conv => whnf)) | (refine rd ‹_› (by rfl) ?_; (conv => whnf))))
                exact RoundP.of (j + 1,some (ga,gc),m,ws) (HeadP.of [] ⟨rfl,rfl,rfl,rfl,rfl,trivial⟩ ⟨rfl,rfl,rfl,trivial⟩) ⟨by show j + 1 ≤ wn; omega,hrg,fun p h => by cases h; exact hq9⟩ (by show wn - (j + 1) < wn - j; omega)
              · rw [if_neg (of_decide_eq_false hm)] at hls
                have hrg2 := hrg.snoc (j : Int)
                rw [← hls] at hrg2
                repeat' (first | (refine ob ?_ ?_; (first | trivial | omega | (simp only [inR]; omega) | exact ble (by rfl) | exact SlR.some ‹_› (by omega)); (conv => whnf)) | (first | (refine ra ‹_› (by rfl) ?_; (conv => whnf)) | (refine rb ‹_› (by rfl) ?_; (conv => whnf)) | (refine rc ‹_› (by rfl) ?_; (conv => whnf)) | (refine rd ‹_› (by rfl) ?_; (conv => whnf))))
                exact RoundP.of (j + 1,some (ga,gc),m + 1,_) (HeadP.of [(81,some 161)] ⟨rfl,rfl,rfl,rfl,rfl,trivial⟩ ⟨rfl,rfl,rfl,trivial⟩) ⟨by show j + 1 ≤ wn; omega,hrg2,fun p h => by cases h; exact hq9⟩ (by show wn - (j + 1) < wn - j; omega)
            · have hje : j = d.ws.length := by omega
              rw [hje] at hrg
              refine PubP.mk (fun ga gc G9 hg9 hp => W.mk ?_)
              (conv => whnf)
              refine ScaP.g (ok2 (slRd intE) (slRd intE) fun _ _ => True) (x := (lostF d S,lostN S d.ws.length)) ⟨_,_,rfl,SlV.grow (hg7.trans (hg8.trans hg9)) hlo6,hrg.pub hp (by omega),trivial⟩ (fun v hv2 => W.mk ?_)
              have hv2 : v = .bool true := hv2.trans (congrArg Value.bool (decide_eq_true rfl))
              subst hv2
              (conv => whnf)
              refine ForkP.mk (fun _ => W.mk ?_) (fun h => by cases h)
              (conv => whnf)
              (refine ScaP.g okU (G := fun _ => none) (x := ()) rfl (fun v hv => W.mk ?_); subst hv; (conv => whnf); refine ForkP.mk (fun _ => W.mk ?_) (fun h => by cases h); (conv => whnf); exact FinP.mk rfl)
end Go.Proofs.YtfppbjfbghaclaaGreat
