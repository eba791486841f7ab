/- Layer 3 (plain): what is shown; protected words stay. Layer 3: the law of DraftKept. Layer 3: items compared; shown. Layer 3: the law of DraftPlays. Layer 3: the law of DraftUndoes. -/
import Derived.Test.YtfppbjfbghaclaaGreatML
import Derived.Test.YtfppbjfbghaclaaGreatMI
set_option linter.unusedSimpArgs false
set_option linter.unusedVariables false
namespace Go.Proofs.YtfppbjfbghaclaaGreat
open Go.Pal Go.RowKit
set_option maxRecDepth 100000
theorem visN (l : List It) : ∀ n, n ≤ l.length → (placesN l n).map (fun i => l.getD i default) = (l.take n).filter (fun y => y.g = 0)
  | 0, _ => by simp [placesN]
  | n + 1, h => by
    have ih := visN l n (by omega)
    have h1 : n < l.length := by omega
    have hgd : l.getD n default = l[n] := by simp [h1]
    rw [placesN_succ, List.take_add_one, List.getElem?_eq_getElem h1, List.filter_append, hgd]
    split
    · rename_i hg
      rw [List.map_append, ih]
      congr 1
      show [l.getD n default] = _
      rw [hgd, Option.toList_some, List.filter_cons, if_pos (by simpa using hg)]; rfl
    · rename_i hg
      rw [ih]
      simp [hg]
def visF (l : List It) : List It := l.filter fun y => y.g = 0
theorem places_vis (l : List It) : (placesF l).map (fun i => l.getD i default) = visF l := by
  rw [placesF, visN l l.length (Nat.le_refl _), List.take_length]; rfl
theorem shown_vis (S : Sh) : shownF S = (visF S.its).map (·.vi) := by rw [← places_vis, shownF, List.map_map]; rfl
theorem goneF_map_o (n : Int) : ∀ (ps : List Nat) (l : List It), (goneF l n ps).map (·.o) = l.map (·.o)
  | [], l => rfl
  | p :: ps, l => by
    have e : goneF l n (p :: ps) = goneF (l.set p { l.getD p default with g := n }) n ps := rfl
    rw [e, goneF_map_o n ps, List.map_set]
    by_cases hp : p < l.length
    · have hgd : l.getD p default = l[p] := by simp [hp]
      rw [hgd]
      have : (l.map (·.o))[p]'(by simpa using hp) = l[p].o := by simp
      rw [← this, List.set_getElem_self]
    · rw [List.set_eq_of_length_le (by simpa using hp)]
theorem goneF_mem (n : Int) (K : List Int) : ∀ (ps : List Nat) (l : List It), (∀ p ∈ ps, (l.getD p default).o ∉ K) → ∀ y ∈ goneF l n ps, y.o ∈ K → y ∈ l
  | [], l, _, y, hy, _ => hy
  | p :: ps, l, h, y, hy, ho => by
    have hy : y ∈ goneF (l.set p { l.getD p default with g := n }) n ps := hy
    have hs : ∀ q, ((l.set p { l.getD p default with g := n }).getD q default).o = (l.getD q default).o := fun q => goneF_o n q [p] l
    have h1 := goneF_mem n K ps _ (fun q hq => by rw [hs]; exact h q (by simp [hq])) y hy ho
    by_cases hp : p < l.length
    · rcases List.mem_or_eq_of_mem_set h1 with h2 | rfl
      · exact h2
      · exact absurd ho (h p (by simp))
    · rwa [List.set_eq_of_length_le (by omega)] at h1
def KeptI (d : Dr) (S : Sh) : Prop := ∀ n ∈ d.ks, (S.its.map (·.o)).count n = 1 ∧ ∀ y ∈ S.its, y.o = n → y.g = 0 ∧ y.m = 0 ∧ y.t = (d.ws.getD n.toNat default).t
theorem ks_lt {d : Dr} (hv : validF d = true) : ∀ n ∈ d.ks, n < d.ws.length := fun n hn => by
  obtain ⟨i, hi, rfl⟩ := List.mem_iff_getElem.1 hn
  have h := ((valid_iff d).1 hv).2.2 i hi
  have hgd : d.ks.getD i 0 = d.ks[i] := by simp [hi]
  rw [rKe, hgd] at h
  simp only [Bool.and_eq_true, inF, decide_eq_true_eq] at h
  omega
theorem kept_begin {d : Dr} (hv : validF d = true) : KeptI d (beginS d) := fun n hn => by
  have h0 := valid_ks hv n hn
  have h1 := ks_lt hv n hn
  have e : (beginS d).its.map (·.o) = (List.range d.ws.length).map fun (i : Nat) => (i : Int) := by simp [beginS, beginIts, List.map_map, Function.comp_def]
  refine ⟨?_, fun y hy ho => ?_⟩
  · rw [e]
    have hnd : ((List.range d.ws.length).map fun (i : Nat) => (i : Int)).Nodup := by
      rw [List.nodup_iff_pairwise_ne, List.pairwise_map]
      exact (List.nodup_range (n := d.ws.length)).imp fun h h2 => h (by omega)
    have hm : n ∈ (List.range d.ws.length).map fun (i : Nat) => (i : Int) := List.mem_map.2 ⟨n.toNat, List.mem_range.2 (by omega), by omega⟩
    rw [hnd.count, if_pos hm]
  · obtain ⟨i, hi, rfl⟩ := List.mem_map.1 hy
    have ho : (i : Int) = n := ho
    subst ho
    exact ⟨rfl, rfl, rfl⟩
theorem kept_step {d : Dr} (hv : validF d = true) {S S' : Sh} {x : Sp} (hp : PosL S) (h : KeptI d S) (hs : stepF d S x = some S') : KeptI d S' := by
  unfold stepF at hs
  split at hs
  · unfold changeF at hs
    split at hs
    · rename_i hc
      cases hs
      intro n hn
      obtain ⟨h1, h2⟩ := h n hn
      have h0 := valid_ks hv n hn
      have hcut : ∀ p ∈ cutF S.its x, (S.its.getD p default).o ∉ d.ks := fun p hpm => by
        have := List.all_eq_true.1 hc.2 p hpm
        simpa [protF] using this
      have hm : ((insF (goneF S.its (S.ch + 1) (cutF S.its x)) (placeF S.its x) (putF (S.ch + 1) x.put)).map (·.o)).count n = 1 := by
        have hput : ((putF (S.ch + 1) x.put).map (·.o)).count n = 0 := by
          rw [List.count_eq_zero]
          intro hm
          simp only [putF, List.map_map, List.mem_map, Function.comp] at hm
          obtain ⟨_, _, rfl⟩ := hm
          omega
        rw [insF, List.map_append, List.map_append, List.count_append, List.count_append, hput, Nat.add_zero, ← List.count_append, ← List.map_append, List.take_append_drop, goneF_map_o]
        exact h1
      refine ⟨hm, fun y hy ho => ?_⟩
      have hy : y ∈ insF (goneF S.its (S.ch + 1) (cutF S.its x)) (placeF S.its x) (putF (S.ch + 1) x.put) := hy
      have old : y ∈ goneF S.its (S.ch + 1) (cutF S.its x) := by
        rcases List.mem_append.1 hy with hy | hy
        · rcases List.mem_append.1 hy with hy | hy
          · exact List.mem_of_mem_take hy
          · obtain ⟨t, _, rfl⟩ := List.mem_map.1 hy
            have ho : (-1 : Int) = n := ho
            omega
        · exact List.mem_of_mem_drop hy
      exact h2 y (goneF_mem (S.ch + 1) d.ks _ _ hcut y old (by rw [ho]; exact hn)) ho
    · cases hs
  · unfold undoF at hs
    split at hs
    · rename_i hu
      cases hs
      have hu1 : 1 ≤ x.u := by
        unfold undoableF at hu
        exact hp.2 _ (of_decide_eq_true (Bool.and_eq_true_iff.1 hu).1)
      intro n hn
      obtain ⟨h1, h2⟩ := h n hn
      have hb : ∀ y : It, (backF x.u y).o = y.o ∧ (backF x.u y).m = y.m ∧ (backF x.u y).t = y.t := fun y => by unfold backF; split <;> exact ⟨rfl, rfl, rfl⟩
      refine ⟨?_, fun y hy ho => ?_⟩
      · have hmo : ∀ l : List It, (l.map (backF x.u)).map (·.o) = l.map (·.o) := fun l => by
          rw [List.map_map]; exact List.map_congr_left fun y _ => (hb y).1
        show (((S.its.filter fun y => y.m != x.u).map (backF x.u)).map (·.o)).count n = 1
        rw [hmo]
        have key : ∀ l : List It, (∀ y ∈ l, y.o = n → y.m = 0) → ((l.filter fun y => y.m != x.u).map (·.o)).count n = (l.map (·.o)).count n := by
          intro l
          induction l with
          | nil => intro _; rfl
          | cons y r ih =>
            intro hl
            have ih := ih fun z hz => hl z (by simp [hz])
            rw [List.filter_cons]
            split
            · rw [List.map_cons, List.map_cons, List.count_cons, List.count_cons, ih]
            · rename_i hne
              have hmu : y.m = x.u := by simpa using hne
              have : y.o ≠ n := fun e => by have := hl y (by simp) e; omega
              rw [ih, List.map_cons, List.count_cons]
              simp [this]
        rw [key S.its fun y hy ho => (h2 y hy ho).2.1]
        exact h1
      · obtain ⟨z, hz, rfl⟩ := List.mem_map.1 hy
        obtain ⟨b1, b2, b3⟩ := hb z
        rw [b1] at ho
        obtain ⟨g1, g2, g3⟩ := h2 z (List.mem_filter.1 hz).1 ho
        refine ⟨?_, by rw [b2]; exact g2, by rw [b3]; exact g3⟩
        unfold backF
        split
        · rfl
        · exact g1
    · cases hs
theorem play_inv {d : Dr} {I : Sh → Prop} (hI : ∀ {S S' : Sh} {x : Sp}, PosL S → I S → stepF d S x = some S' → I S') : ∀ {steps : List Sp} {S S' : Sh} {i : Nat}, PosL S → I S → playF d S steps i = .inr S' → I S' ∧ PosL S'
  | [], S, S', i, hp, h, e => by cases e; exact ⟨h, hp⟩
  | x :: r, S, S', i, hp, h, e => by
    simp only [playF] at e
    split at e
    · rename_i S1 hs
      exact play_inv hI (posL_step hp hs) (hI hp h hs) e
    · cases e
theorem posL_begin (d : Dr) : PosL (beginS d) := ⟨Int.le_refl _, fun n hn => by cases hn⟩
theorem endF_ok {d : Dr} {steps : List Sp} {S : Sh} (h : endF d steps = .ok S) : validF d = true ∧ steps.length ≤ 80 ∧ playF d (beginS d) steps 0 = .inr S := by
  unfold endF at h
  split at h
  · cases h
  · rename_i hv
    split at h
    · cases h
    · split at h
      · cases h
      · rename_i e; cases h; exact ⟨by simpa using hv, by omega, e⟩
def keptM (d : Dr) (n : Int) (v : Vi) : Bool := decide (v.o = n) && decide (v.m = 0) && decide (v.t = (d.ws.getD n.toNat default).t)
theorem kept_shown {d : Dr} {steps : List Sp} {S : Sh} (h : endF d steps = .ok S) {n : Int} (hn : n ∈ d.ks) : (shownF S).countP (keptM d n) = 1 := by
  obtain ⟨hv, _, hpl⟩ := endF_ok h
  obtain ⟨h1, h2⟩ := (play_inv (I := KeptI d) (fun hp h hs => kept_step hv hp h hs) (posL_begin d) (kept_begin hv) hpl).1 n hn
  rw [shown_vis, List.countP_map, ← h1]
  have key : ∀ l : List It, (∀ y ∈ l, y.o = n → y.g = 0 ∧ y.m = 0 ∧ y.t = (d.ws.getD n.toNat default).t) → (visF l).countP (keptM d n ∘ (·.vi)) = (l.map (·.o)).count n := by
    intro l
    induction l with
    | nil => intro _; rfl
    | cons y r ih =>
      intro hl
      have ih := ih fun z hz => hl z (by simp [hz])
      rw [visF, List.filter_cons]
      by_cases ho : y.o = n
      · obtain ⟨g1, g2, g3⟩ := hl y (by simp) ho
        rw [if_pos (by simpa using g1), List.countP_cons, List.map_cons, List.count_cons]
        have : (keptM d n ∘ (·.vi)) y = true := by simp [keptM, It.vi, ho, g2, g3]
        rw [if_pos this, if_pos (by simpa using ho)]
        exact congrArg (· + 1) ih
      · have hk : (keptM d n ∘ (·.vi)) y = false := by simp [keptM, It.vi, ho]
        have hc : (List.map (fun x => x.o) (y :: r)).count n = (r.map (·.o)).count n := by
          rw [List.map_cons, List.count_cons]
          have : (y.o == n) = false := by simpa using ho
          rw [this]; rfl
        rw [hc]
        split
        · rw [List.countP_cons, hk]; exact ih
        · exact ih
  exact key S.its h2
end Go.Proofs.YtfppbjfbghaclaaGreat

namespace Go.Proofs.YtfppbjfbghaclaaGreat
open Go.Pal Go.RowKit
set_option maxRecDepth 100000
theorem pur_eqT (a b : ByteArray) : ∀ w, ((POp.bin .eql 9).sem [.string a, .string b]).run Tryz.prog w = .ok (.bool (decide (a = b))) w := fun w => by
  have e1 : (POp.bin .eql 9).sem [.string a, .string b] = (do eqGuard .eql 9 (.tmp 0) (.tmp 0) (.string a) (.string b); binOp .eql 9 (.string a) (.string b)) := rfl
  have e2 : (a.toList == b.toList) = decide (a = b) := by
    rw [Bool.eq_iff_iff]
    simp only [ByteArray.toList_eq, beq_iff_eq, decide_eq_true_eq]
    exact ⟨fun h => by cases a; cases b; simp [Array.toList_inj] at h; rw [h], fun h => by rw [h]⟩
  rw [e1, eqGuard_at_string, binOp_string_eql, e2]
  rfl
theorem ready_iff {d : Dr} {steps : List Sp} : readyF d steps = true ↔ thinF d steps = true ∧ ∃ S, endF d steps = .ok S := by
  rw [readyF, Bool.and_eq_true]
  refine and_congr_right fun _ => ?_
  cases endF d steps <;> simp [okE]
abbrev lawT (T : Tab Tryz.prog) : Tab Tryz.prog := Tab.cons 15 _ awake15 body15 (Tab.cons 25 _ ready25 body25 (Tab.cons 17 _ draft17 body17 (Tab.cons 18 _ steps18 body18 (Tab.cons 26 _ play26 body26 T))))
theorem countP_take_succ {α : Type} (p : α → Bool) (l : List α) {i : Nat} (h : i < l.length) : (l.take (i + 1)).countP p = (l.take i).countP p + if p l[i] = true then 1 else 0 := by
  rw [List.take_add_one, List.getElem?_eq_getElem h, Option.toList_some, List.countP_append, List.countP_singleton]
set_option maxHeartbeats 4000000 in
theorem law5 : Sound Tryz.prog 5 id (gsca (args2 duRd suRd fun _ _ => True) fun _ v => v = .bool true) := by
  refine comp5.gsca (lawT (Tab.nil _)) (fun args G s h => ?_) (fun args G x h => ?_)
  · obtain ⟨u, v, rfl, _⟩ := h; simp
  · obtain ⟨d, steps⟩ := x
    obtain ⟨_, _, rfl, hdu, hsu, _⟩ := h
    dsimp only at hdu hsu
    obtain ⟨w, k, rfl, hw, hk⟩ := id hdu
    obtain ⟨wa, wn, wc, rfl, hwl, _⟩ := id hw
    obtain ⟨ka, kn, kc, rfl, hkl, _⟩ := id hk
    obtain ⟨a, n, c, rfl, hst, hn⟩ := id hsu
    (conv => whnf)
    refine ScaP.g (ok2 duRd suRd fun _ _ => True) (x := (d, steps)) ⟨_, _, rfl, hdu, hsu, trivial⟩ (fun v hv => W.mk ?_)
    subst hv
    dsimp only
    (conv => whnf)
    refine ForkP.mk (fun ht => W.mk ?_) (fun ht => W.mk ?_) <;> (conv => whnf)
    rotate_left
    · (refine ScaP.g okU (G := fun _ => none) (x := ()) rfl (fun v hv => W.mk ?_); subst hv; (conv => whnf); refine ForkP.mk (fun _ => W.mk ?_) (fun h => by cases h); (conv => whnf); exact FinP.mk rfl)
    obtain ⟨hthin, S, hS⟩ := ready_iff.1 ht
    obtain ⟨t1, t2, t3, t4, t5⟩ := thin_iff.1 hthin
    have hdr := thin_dr hthin hdu
    have hsr := thin_sps hthin hsu
    obtain ⟨hv, h80, hpl⟩ := endF_ok hS
    refine RelP.g (ok1 drRd fun d => d.ws.length ≤ 100000 ∧ d.ks.length ≤ 100000) (x := d) ⟨_, rfl, hdr, by omega, by omega⟩ (Grow.refl _) (fun v G1 hg1 hq1 => W.mk ?_)
    obtain ⟨_, _, rfl, ⟨_, _, _, rfl, _, _⟩, ⟨_, _, _, rfl, _, _⟩⟩ := id hq1
    (conv => whnf)
    refine RelP.g (ok1 spsRd fun l => l.length ≤ 100000 ∧ FineS l) (x := steps) ⟨_, rfl, spsRd.grow hg1 hsr, by omega, thin_fine hthin⟩ (Grow.refl _) (fun v G2 hg2 hq2 => W.mk ?_)
    obtain ⟨_, _, _, rfl, _, _⟩ := id hq2
    (conv => whnf)
    refine RelP.g (ok2 drRd spsRd fun _ _ => True) (x := (d, steps)) ⟨_, _, rfl, drRd.grow hg2 hq1, hq2, trivial⟩ (Grow.refl _) (fun v G3 hg3 hq => W.mk ?_)
    unfold showR at hq
    dsimp only at hq
    rw [hS] at hq
    obtain ⟨xa, xb, rfl, ⟨la, ln, lc, rfl, hl, hln⟩, ⟨va, vn, vc, rfl, _, _⟩⟩ := hq
    have hlen := hl.len
    have hklen := hkl.len
    have hwlen := hwl.len
    have hG3 := hg1.trans (hg2.trans hg3)
    (conv => whnf)
    (refine IteP.mk (fun _ => W.mk ?_) (fun _ => W.mk ?_) <;> first | (exfalso; omega) | (conv => whnf))
    refine LoopP.of { α := Nat, fr := fun x => [(2, .c (.ptr 0 0)), (5, .v (.slice la ln lc)), (9, .v (I x))], H := fun _ => [(0, .cells .anon [.val (.slice wa wn wc), .val (.slice ka kn kc)] 25)], ok := fun i _ => i ≤ d.ks.length, m := fun x => d.ks.length - x }
      0 (HeadP.of [] ⟨rfl, rfl, rfl, trivial⟩ ⟨rfl, trivial⟩) (Nat.zero_le _) (fun _ => ⟨rfl, rfl⟩) (fun (i : Nat) G4 hg4 (hi : i ≤ _) => W.mk ?_)
    dsimp only
    (conv => whnf)
    refine IteP.mk (fun hlt => W.mk ?_) (fun hge => W.mk ?_) <;> (conv => whnf)
    rotate_left
    · (refine ScaP.g okU (G := fun _ => none) (x := ()) rfl (fun v hv => W.mk ?_); subst hv; (conv => whnf); refine ForkP.mk (fun _ => W.mk ?_) (fun h => by cases h); (conv => whnf); exact FinP.mk rfl)
    have h1 : i < d.ks.length := by omega
    have hmem : d.ks[i] ∈ d.ks := List.getElem_mem h1
    have hcnt := kept_shown hS hmem
    have hk0 := valid_ks hv _ hmem
    have hk1 := ks_lt hv _ hmem
    refine LoopP.of { α := Nat × Nat, fr := fun x => [(2, .c (.ptr 0 0)), (5, .v (.slice la ln lc)), (9, .v (I i)), (10, .v (I x.2)), (11, .v (I x.1))], H := fun _ => [(0, .cells .anon [.val (.slice wa wn wc), .val (.slice ka kn kc)] 25)], ok := fun x _ => x.1 ≤ (shownF S).length ∧ x.2 = ((shownF S).take x.1).countP (keptM d d.ks[i]), m := fun x => (shownF S).length - x.1 }
      (0, 0) (HeadP.of [] ⟨rfl, rfl, rfl, rfl, rfl, trivial⟩ ⟨rfl, trivial⟩) ⟨Nat.zero_le _, rfl⟩ (fun _ => ⟨rfl, rfl⟩) (fun x G5 hg5 hx => W.mk ?_)
    obtain ⟨j, m⟩ := x
    obtain ⟨hj, hm⟩ := hx
    dsimp only at hj hm
    dsimp only
    (conv => whnf)
    refine IteP.mk (fun hlt2 => W.mk ?_) (fun hge2 => W.mk ?_) <;> (conv => whnf)
    · have hj1 : j < (shownF S).length := by omega
      have hcl := (SlR.grow (G := G3) (G' := G5) (fun _ _ h => h) hl (hg4.trans hg5)).el hj1
      have hck := (SlR.grow (G := G) (G' := G5) (fun _ _ h => h) hkl (hG3.trans (hg4.trans hg5))).el h1
      have hcw := (SlR.grow (G := G) (G' := G5) (fun _ _ h => h) hwl (hG3.trans (hg4.trans hg5))).el (i := d.ks[i].toNat) (by omega)
      have hwg : d.ws.getD d.ks[i].toNat default = d.ws[d.ks[i].toNat]'(by omega) := by rw [List.getD_eq_getElem?_getD, List.getElem?_eq_getElem (by omega)]; rfl
      have hsu := countP_take_succ (keptM d d.ks[i]) (shownF S) hj1
      have hle : ((shownF S).take j).countP (keptM d d.ks[i]) ≤ j := Nat.le_trans (List.countP_le_length) (by rw [List.length_take]; omega)
      have hkm : keptM d d.ks[i] (shownF S)[j] = (decide ((shownF S)[j].o = d.ks[i]) && decide ((shownF S)[j].m = 0) && decide ((shownF S)[j].t = (d.ws[d.ks[i].toNat]'(by omega)).t)) := by rw [keptM, hwg]
      generalize d.ws[d.ks[i].toNat]'(by omega) = wo at hcw hkm
      generalize (shownF S)[j] = x at hcl hsu hkm
      clear hwg
      generalize d.ks[i] = nn at hcnt hk0 hk1 hck hsu hle hkm hcw hm ⊢
      rw [← hm] at hle hsu
      have nxt : ∀ b : Bool, keptM d nn x = b → ((shownF S).take (j + 1)).countP (keptM d nn) = m + if b = true then 1 else 0 := fun b hb => by rw [hsu, hb]
      repeat' (first | (refine ob ?_ ?_; (first | trivial | omega | (simp only [inR]; omega) | exact ble (by rfl) | exact SlR.some ‹_› (by omega)); (conv => whnf)) | (first | (refine ra ‹_› (by rfl) ?_; (conv => whnf)) | (refine rb ‹_› (by rfl) ?_; (conv => whnf)) | (refine rc ‹_› (by rfl) ?_; (conv => whnf)) | (refine rd ‹_› (by rfl) ?_; (conv => whnf))))
      refine IteP.mk (fun q1 => W.mk ?_) (fun q1 => W.mk ?_) <;> (conv => whnf)
      · repeat' (first | (refine ob ?_ ?_; (first | trivial | omega | (simp only [inR]; omega) | exact ble (by rfl) | exact SlR.some ‹_› (by omega)); (conv => whnf)) | (first | (refine ra ‹_› (by rfl) ?_; (conv => whnf)) | (refine rb ‹_› (by rfl) ?_; (conv => whnf)) | (refine rc ‹_› (by rfl) ?_; (conv => whnf)) | (refine rd ‹_› (by rfl) ?_; (conv => whnf))))
        refine IteP.mk (fun q2 => W.mk ?_) (fun q2 => W.mk ?_) <;> (conv => whnf)
        · repeat' (first | (refine ob ?_ ?_; (first | trivial | omega | (simp only [inR]; omega) | exact ble (by rfl) | exact SlR.some ‹_› (by omega)); (conv => whnf)) | (first | (refine ra ‹_› (by rfl) ?_; (conv => whnf)) | (refine rb ‹_› (by rfl) ?_; (conv => whnf)) | (refine rc ‹_› (by rfl) ?_; (conv => whnf)) | (refine rd ‹_› (by rfl) ?_; (conv => whnf))))
          refine PurP.of _ (pur_eqT _ _) (W.mk ?_)
          (conv => whnf)
          refine ForkP.mk (fun q3 => W.mk ?_) (fun q3 => W.mk ?_) <;> (conv => whnf)
          · repeat' (refine ob ?_ ?_; (first | trivial | omega | (simp only [inR]; omega) | exact ble (by rfl) | exact SlR.some ‹_› (by omega)); (conv => whnf))
            exact RoundP.of (j + 1, m + 1) (HeadP.of [] ⟨rfl, rfl, rfl, rfl, rfl, trivial⟩ ⟨rfl, trivial⟩) ⟨hj1, (nxt true (by rw [hkm, q1, q2, q3]; simp)).symm⟩ (by show (shownF S).length - (j + 1) < (shownF S).length - j; omega)
          · repeat' (refine ob ?_ ?_; (first | trivial | omega | (simp only [inR]; omega) | exact ble (by rfl) | exact SlR.some ‹_› (by omega)); (conv => whnf))
            exact RoundP.of (j + 1, m) (HeadP.of [] ⟨rfl, rfl, rfl, rfl, rfl, trivial⟩ ⟨rfl, trivial⟩) ⟨hj1, (nxt false (by rw [hkm, q3]; simp)).symm⟩ (by show (shownF S).length - (j + 1) < (shownF S).length - j; omega)
        · repeat' (refine ob ?_ ?_; (first | trivial | omega | (simp only [inR]; omega) | exact ble (by rfl) | exact SlR.some ‹_› (by omega)); (conv => whnf))
          exact RoundP.of (j + 1, m) (HeadP.of [] ⟨rfl, rfl, rfl, rfl, rfl, trivial⟩ ⟨rfl, trivial⟩) ⟨hj1, (nxt false (by rw [hkm, decide_eq_false q2]; simp)).symm⟩ (by show (shownF S).length - (j + 1) < (shownF S).length - j; omega)
      · repeat' (refine ob ?_ ?_; (first | trivial | omega | (simp only [inR]; omega) | exact ble (by rfl) | exact SlR.some ‹_› (by omega)); (conv => whnf))
        exact RoundP.of (j + 1, m) (HeadP.of [] ⟨rfl, rfl, rfl, rfl, rfl, trivial⟩ ⟨rfl, trivial⟩) ⟨hj1, (nxt false (by rw [hkm, decide_eq_false q1]; simp)).symm⟩ (by show (shownF S).length - (j + 1) < (shownF S).length - j; omega)
    · have : j = (shownF S).length := by omega
      subst this
      rw [List.take_length, hcnt] at hm
      subst hm
      (refine IteP.mk (fun _ => W.mk ?_) (fun _ => W.mk ?_) <;> first | (exfalso; omega) | (conv => whnf))
      repeat' (refine ob ?_ ?_; (first | trivial | omega | (simp only [inR]; omega) | exact ble (by rfl) | exact SlR.some ‹_› (by omega)); (conv => whnf))
      exact RoundP.of (i + 1) (HeadP.of [] ⟨rfl, rfl, rfl, trivial⟩ ⟨rfl, trivial⟩) h1 (by simp only; omega)
end Go.Proofs.YtfppbjfbghaclaaGreat

namespace Go.Proofs.YtfppbjfbghaclaaGreat
open Go.Pal Go.RowKit
set_option maxRecDepth 100000
instance : DecidableEq Vi := fun a b => decidable_of_iff (a.t = b.t ∧ a.o = b.o ∧ a.m = b.m) (by cases a; cases b; simp)
theorem eqSII_run {P : Program} {t s e : TypeId} (hu : (match P.underlying t with | some (.struct _) => true | _ => false) = true) (hf : (P.fieldsOf t).toList.map (fun f => (f.type, f.offset)) = [(s, 0), (e, 1), (e, 2)]) (hn : (P.fieldsOf t).toList.all (fun f => f.name != "_") = true) (hse : P.underlying s = some .string) (he : P.underlying e = some (.int .i64)) (hzs : szT P s = some 1) (hz : szT P e = some 1)
    (hs : P.stoodInHeld t = false) (w : World) (a a' : ByteArray) (b c b' c' : Int) : (Op.equalIn 10000 t (.agg #[.string a, I b, I c]) (.agg #[.string a', I b', I c'])).run P w = .ok (decide (a = a' ∧ b = b' ∧ c = c')) w := by
  rw [show (10000 : Nat) = 9999 + 1 from rfl, run_equalIn_struct w 9999 t _ _ (struct_of hu) hs]
  generalize (P.fieldsOf t).toList = fs at hf hn
  have hag : aggT P e = some false := by simp [aggT, he]
  have hags : aggT P s = some false := by simp [aggT, hse]
  have hsz := run_sizeOf' (P := P) (W := w) (t := e) (n := 1) hz
  have hgg := run_isAgg' (P := P) (W := w) (t := e) (g := false) hag
  have hszs := run_sizeOf' (P := P) (W := w) (t := s) (n := 1) hzs
  have hggs := run_isAgg' (P := P) (W := w) (t := s) (g := false) hags
  obtain ⟨f1, f2, f3, rfl⟩ : ∃ f1 f2 f3, fs = [f1, f2, f3] := by
    have hl := congrArg List.length hf
    simp only [List.length_map, List.length_cons, List.length_nil] at hl
    match fs, hl with
    | [f1, f2, f3], _ => exact ⟨f1, f2, f3, rfl⟩
  simp only [List.map_cons, List.map_nil, List.cons.injEq, Prod.mk.injEq, and_true] at hf
  obtain ⟨⟨t1, o1⟩, ⟨t2, o2⟩, t3, o3⟩ := hf
  simp only [List.all_cons, List.all_nil, Bool.and_true, Bool.and_eq_true, bne_iff_ne, ne_eq] at hn
  have he1 := fun a b => run_equalIn_int (P := P) w 9998 e .i64 .i64 a b he
  have hs1 := fun a b => run_equalIn_str (P := P) w 9998 s a b hse
  simp only [Op.eqFields, t1, o1, t2, o2, t3, o3, hn.1, hn.2.1, hn.2.2, ne_eq, not_false_eq_true, if_true]
  simp [part, hsz, hgg, hszs, hggs, he1, hs1, Result.andThen]
  by_cases h1 : a = a'
  · subst h1
    by_cases h2 : b = b'
    · subst h2
      by_cases h3 : c = c'
      · subst h3; simp [he1]
      · simp [he1, h3]
    · simp [he1, h2]
  · simp [h1]
theorem pur_neItem (x y : Vi) : ∀ w, ((POp.bin .neq 57).sem [.agg (viE.f x).toArray, .agg (viE.f y).toArray]).run Tryz.prog w = .ok (.bool (!decide (x = y))) w := fun w => by
  have e1 : (POp.bin .neq 57).sem [.agg (viE.f x).toArray, .agg (viE.f y).toArray] = (do eqGuard .neq 57 (.tmp 0) (.tmp 0) (.agg #[.string x.t, I x.o, I x.m]) (.agg #[.string y.t, I y.o, I y.m]); binOp .neq 57 (.agg #[.string x.t, I x.o, I x.m]) (.agg #[.string y.t, I y.o, I y.m])) := rfl
  have e2 : decide (x = y) = decide (x.t = y.t ∧ x.o = y.o ∧ x.m = y.m) := by
    apply decide_eq_decide.2
    cases x; cases y; simp
  rw [e1, e2]
  have hr := eqSII_run (P := Tryz.prog) (t := 57) (s := 9) (e := 3) (by kernel_rfl) (by kernel_rfl) (by kernel_rfl) und9 (by kernel_rfl) (by kernel_rfl) (by kernel_rfl) (by kernel_rfl) w x.t y.t x.o x.m y.o y.m
  have hg : Tryz.prog.eqGuardType Tryz.prog.depth 57 = false := by kernel_rfl
  simp [run_eqGuard_agg w .neq 57 _ _ _ _ hg, run_neq_struct, hr, Result.andThen]
theorem neB4 (a b : Bool) : ∀ w, ((POp.bin .neq 4).sem [.bool a, .bool b]).run Tryz.prog w = .ok (.bool (a != b)) w := fun w => by
  cases a <;> cases b <;> rfl
set_option maxHeartbeats 1000000 in
theorem shown33 : Sound Tryz.prog 33 id (gsca (args2 (slRd viE) (slRd itE) fun _ l => l.length ≤ 100000) fun x v => v = .bool (decide (x.1 = (placesF x.2).map fun i => (x.2.getD i default).vi))) := by
  refine comp33.gsca (Tab.cons 21 _ visible21 body21 (Tab.nil _)) (fun args G s h => ?_) (fun args G x h => ?_)
  · obtain ⟨u, v, rfl, _⟩ := h; simp
  · obtain ⟨q, l⟩ := x
    obtain ⟨_, _, rfl, ⟨a, n, c, rfl, hq, hn⟩, hlv, hb⟩ := h
    dsimp only at hq hlv hb
    obtain ⟨a2, n2, c2, rfl, hl, hn2⟩ := id hlv
    have hqlen := hq.len
    have hlen := hl.len
    dsimp only
    obtain ⟨S, hS⟩ : ∃ S : Sh, S = ⟨l, [], 0⟩ := ⟨_, rfl⟩
    have hsh : (placesF l).map (fun i => (l.getD i default).vi) = shownF S := by rw [hS]; rfl
    rw [hsh]
    (conv => whnf)
    refine RelP.g (ok1 (slRd itE) fun l => l.length ≤ 100000) (x := l) ⟨_, rfl, hlv, hb⟩ (Grow.refl _) (fun v G1 hg1 hq1 => W.mk ?_)
    obtain ⟨va, vn, vc, rfl, hvl, hvn⟩ := hq1
    have hvlen := hvl.len
    have hshl : (shownF S).length = vn := by rw [← hsh, List.length_map, hvlen]
    (conv => whnf)
    refine IteP.mk (fun h0 => W.mk ?_) (fun h0 => W.mk ?_) <;> (conv => whnf)
    rotate_left
    · refine FinP.mk (congrArg Value.bool ?_)
      rw [decide_eq_false (fun e => h0 (by subst e; omega))]
    refine LoopP.of { α := Nat, fr := fun x => [(0, .v (.slice a n c)), (1, .v (.slice a2 n2 c2)), (5, .v (.slice va vn vc)), (6, .v (I x))], H := fun _ => [], ok := fun x _ => x ≤ q.length ∧ (q = shownF S ↔ q.drop x = (shownF S).drop x), m := fun x => q.length - x }
      0 (HeadP.of [] ⟨rfl, rfl, rfl, rfl, trivial⟩ trivial) ⟨Nat.zero_le _, Iff.rfl⟩ (fun _ => ⟨rfl, rfl⟩) (fun (x : Nat) G' hG hx => W.mk ?_)
    obtain ⟨hi, hx⟩ := hx
    (conv => whnf)
    refine IteP.mk (fun hlt => W.mk ?_) (fun hge => W.mk ?_) <;> (conv => whnf)
    · have hlt1 : x < q.length := by omega
      have hltv : x < (placesF l).length := by omega
      have hlt2 : x < (shownF S).length := by omega
      have hcq := (SlR.grow (G := G) (G' := G') (fun _ _ h => h) hq (hg1.trans hG)).el hlt1
      have hcv := (SlR.grow (G := G1) (G' := G') (fun _ _ h => h) hvl hG).el hltv
      have hpl : (placesF l)[x] < l.length := placesN_lt (List.getElem_mem hltv)
      have hcl := (SlR.grow (G := G) (G' := G') (fun _ _ h => h) hl (hg1.trans hG)).el hpl
      have hsx : (shownF S)[x] = l[(placesF l)[x]].vi := by
        have : (shownF S)[x] = ((placesF l).map fun i => (l.getD i default).vi)[x]'(by simpa using hltv) := by simp only [hsh]
        rw [this, List.getElem_map]
        simp [hpl]
      rw [List.drop_eq_getElem_cons hlt1, List.drop_eq_getElem_cons hlt2, List.cons.injEq, hsx] at hx
      generalize l[(placesF l)[x]] = y at hcl hx
      generalize (placesF l)[x] = p at hcv hcl hpl
      generalize q[x] = z at hcq hx
      repeat' (first | (refine ob ?_ ?_; (first | trivial | omega | (simp only [inR]; omega) | exact ble (by rfl) | exact SlR.some ‹_› (by omega)); (conv => whnf)) | (first | (refine ra ‹_› (by rfl) ?_; (conv => whnf)) | (refine rb ‹_› (by rfl) ?_; (conv => whnf)) | (refine rc ‹_› (by rfl) ?_; (conv => whnf)) | (refine rd ‹_› (by rfl) ?_; (conv => whnf))))
      refine PurP.of _ (pur_neItem z y.vi) (W.mk ?_)
      (conv => whnf)
      refine ForkP.mk (fun h3 => W.mk ?_) (fun h3 => W.mk ?_) <;> (conv => whnf)
      · refine FinP.mk (congrArg Value.bool ?_)
        rw [decide_eq_false (fun e => by have := (hx.1 e).1; simp [this] at h3)]
      · repeat' (refine ob ?_ ?_; (first | trivial | omega | (simp only [inR]; omega) | exact ble (by rfl) | exact SlR.some ‹_› (by omega)); (conv => whnf))
        exact RoundP.of (x + 1) (HeadP.of [] ⟨rfl, rfl, rfl, rfl, trivial⟩ trivial) ⟨hlt1, by rw [hx]; exact ⟨fun h => h.2, fun h => ⟨by simpa using h3, h⟩⟩⟩ (by simp only; omega)
    · refine FinP.mk (congrArg Value.bool ?_)
      have : q = shownF S := hx.2 (by rw [List.drop_eq_nil_of_le (by omega), List.drop_eq_nil_of_le (by omega)])
      rw [decide_eq_true this]
end Go.Proofs.YtfppbjfbghaclaaGreat

namespace Go.Proofs.YtfppbjfbghaclaaGreat
open Go.Pal Go.RowKit
set_option maxRecDepth 100000
theorem nonarg_valid {d : Dr} {steps : List Sp} (h : endF d steps ≠ .arg) : validF d = true := by
  cases hv : validF d with
  | true => rfl
  | false => exact absurd (by unfold endF; rw [if_pos hv]) h
set_option maxHeartbeats 4000000 in
theorem law9 : Sound Tryz.prog 9 id (gsca (args2 duRd suRd fun _ _ => True) fun _ v => v = .bool true) := by
  refine comp9.gsca (lawT (Tab.cons 14 _ thin14 body14 (Tab.cons 31 _ check31 body31 (Tab.cons 32 _ right32 body32 (Tab.cons 19 _ fault19 body19 (Tab.cons 20 _ rplay20 body20 (Tab.cons 33 _ shown33 body33 (Tab.cons 23 _ ints23 body23 (Tab.nil _))))))))) (fun args G s h => ?_) (fun args G x h => ?_)
  · obtain ⟨u, v, rfl, _⟩ := h; simp
  · obtain ⟨d, steps⟩ := x
    obtain ⟨_, _, rfl, hdu, hsu, _⟩ := h
    dsimp only at hdu hsu
    obtain ⟨w, k, rfl, hw, hk⟩ := id hdu
    obtain ⟨wa, wn, wc, rfl, hwl, _⟩ := id hw
    obtain ⟨ka, kn, kc, rfl, hkl, _⟩ := id hk
    obtain ⟨a, n, c, rfl, hst, hn⟩ := id hsu
    (conv => whnf)
    refine ScaP.g (ok2 duRd suRd fun _ _ => True) (x := (d, steps)) ⟨_, _, rfl, hdu, hsu, trivial⟩ (fun v hv => W.mk ?_)
    subst hv
    dsimp only
    (conv => whnf)
    refine ForkP.mk (fun hthin => W.mk ?_) (fun ht => W.mk ?_) <;> (conv => whnf)
    rotate_left
    · (refine ScaP.g okU (G := fun _ => none) (x := ()) rfl (fun v hv => W.mk ?_); subst hv; (conv => whnf); refine ForkP.mk (fun _ => W.mk ?_) (fun h => by cases h); (conv => whnf); exact FinP.mk rfl)
    obtain ⟨t1, t2, t3, t4, t5⟩ := thin_iff.1 hthin
    have hdr := thin_dr hthin hdu
    have hsr := thin_sps hthin hsu
    refine RelP.g (ok1 drRd fun d => d.ws.length ≤ 100000 ∧ d.ks.length ≤ 100000) (x := d) ⟨_, rfl, hdr, by omega, by omega⟩ (Grow.refl _) (fun v G1 hg1 hq1 => W.mk ?_)
    obtain ⟨_, _, rfl, ⟨_, _, _, rfl, _, _⟩, ⟨_, _, _, rfl, _, _⟩⟩ := id hq1
    (conv => whnf)
    refine RelP.g (ok1 spsRd fun l => l.length ≤ 100000 ∧ FineS l) (x := steps) ⟨_, rfl, spsRd.grow hg1 hsr, by omega, thin_fine hthin⟩ (Grow.refl _) (fun v G2 hg2 hq2 => W.mk ?_)
    obtain ⟨_, _, _, rfl, _, _⟩ := id hq2
    (conv => whnf)
    refine RelP.g (ok2 drRd spsRd fun _ _ => True) (x := (d, steps)) ⟨_, _, rfl, drRd.grow hg2 hq1, hq2, trivial⟩ (Grow.refl _) (fun v G3 hg3 hq => W.mk ?_)
    unfold showR at hq
    dsimp only at hq
    have hG3 := hg1.trans (hg2.trans hg3)
    cases hE : endF d steps with
    | arg =>
      rw [hE] at hq
      subst hq
      have hv : validF d = false := by
        unfold endF at hE
        split at hE
        · assumption
        · split at hE <;> first | cases hE | (split at hE <;> cases hE)
      (conv => whnf)
      refine RelP.g (ok1 drRd fun d => d.ws.length ≤ 100000 ∧ d.ks.length ≤ 100000) (x := d) ⟨_, rfl, drRd.grow hG3 hdr, by omega, by omega⟩ (Grow.refl _) (fun v G4 hg4 hq4 => W.mk ?_)
      obtain ⟨_, _, rfl, ⟨_, _, _, rfl, _, _⟩, ⟨_, _, _, rfl, _, _⟩⟩ := id hq4
      (conv => whnf)
      refine ScaP.g (ok1 drRd fun _ => True) (x := d) ⟨_, rfl, hq4, trivial⟩ (fun v hv2 => W.mk ?_)
      rw [show (if validF d = true then (0 : Int) else 1) = 1 by simp [hv]] at hv2
      subst hv2
      (conv => whnf)
      (refine IteP.mk (fun _ => W.mk ?_) (fun _ => W.mk ?_) <;> first | (exfalso; omega) | (conv => whnf))
      refine ScaP.g (ok1 drRd fun d => d.ks.length ≤ 100000 ∧ ∀ w ∈ d.ws, w.t.size ≤ 1000000) (x := d) ⟨_, rfl, drRd.grow (hG3.trans hg4) hdr, by omega, fun w hw => by have := t1 w hw; omega⟩ (fun v hv2 => W.mk ?_)
      rw [hv] at hv2
      subst hv2
      (conv => whnf)
      refine ForkP.mk (fun h => by cases h) (fun _ => W.mk ?_)
      (conv => whnf)
      refine PurP.of _ (neB4 _ _) (W.mk ?_)
      (conv => whnf)
      refine ForkP.mk (fun h => by cases h) (fun _ => W.mk ?_)
      (conv => whnf)
      (refine IteP.mk (fun _ => W.mk ?_) (fun _ => W.mk ?_) <;> first | (exfalso; omega) | (conv => whnf))
      (refine IteP.mk (fun _ => W.mk ?_) (fun _ => W.mk ?_) <;> first | (exfalso; omega) | (conv => whnf))
      refine ScaP.g (ok2 drRd spsRd fun d steps => thinF d steps = true) (x := (d, steps)) ⟨_, _, rfl, drRd.grow (hG3.trans hg4) hdr, spsRd.grow (hG3.trans hg4) hsr, hthin⟩ (fun v hv2 => W.mk ?_)
      dsimp only at hv2
      rw [hE] at hv2
      dsimp only [faultOf] at hv2
      subst hv2
      (conv => whnf)
      (refine IteP.mk (fun _ => W.mk ?_) (fun _ => W.mk ?_) <;> first | (exfalso; omega) | (conv => whnf))
      (refine IteP.mk (fun _ => W.mk ?_) (fun _ => W.mk ?_) <;> first | (exfalso; omega) | (conv => whnf))
      (refine IteP.mk (fun _ => W.mk ?_) (fun _ => W.mk ?_) <;> first | (exfalso; omega) | (conv => whnf))
      (refine IteP.mk (fun _ => W.mk ?_) (fun _ => W.mk ?_) <;> first | (exfalso; omega) | (conv => whnf))
      (refine IteP.mk (fun _ => W.mk ?_) (fun _ => W.mk ?_) <;> first | (exfalso; omega) | (conv => whnf))
      (refine ScaP.g okU (G := fun _ => none) (x := ()) rfl (fun v hv => W.mk ?_); subst hv; (conv => whnf); refine ForkP.mk (fun _ => W.mk ?_) (fun h => by cases h); (conv => whnf); exact FinP.mk rfl)
    | limit =>
      rw [hE] at hq
      subst hq
      have hv := nonarg_valid (by rw [hE]; exact fun h => by cases h)
      (conv => whnf)
      refine RelP.g (ok1 drRd fun d => d.ws.length ≤ 100000 ∧ d.ks.length ≤ 100000) (x := d) ⟨_, rfl, drRd.grow hG3 hdr, by omega, by omega⟩ (Grow.refl _) (fun v G4 hg4 hq4 => W.mk ?_)
      obtain ⟨_, _, rfl, ⟨_, _, _, rfl, _, _⟩, ⟨_, _, _, rfl, _, _⟩⟩ := id hq4
      (conv => whnf)
      refine ScaP.g (ok1 drRd fun _ => True) (x := d) ⟨_, rfl, hq4, trivial⟩ (fun v hv2 => W.mk ?_)
      rw [show (if validF d = true then (0 : Int) else 1) = 0 by simp [hv]] at hv2
      subst hv2
      (conv => whnf)
      (refine IteP.mk (fun _ => W.mk ?_) (fun _ => W.mk ?_) <;> first | (exfalso; omega) | (conv => whnf))
      refine ScaP.g (ok1 drRd fun d => d.ks.length ≤ 100000 ∧ ∀ w ∈ d.ws, w.t.size ≤ 1000000) (x := d) ⟨_, rfl, drRd.grow (hG3.trans hg4) hdr, by omega, fun w hw => by have := t1 w hw; omega⟩ (fun v hv2 => W.mk ?_)
      rw [hv] at hv2
      subst hv2
      (conv => whnf)
      refine ForkP.mk (fun _ => W.mk ?_) (fun h => by cases h)
      (conv => whnf)
      refine PurP.of _ (neB4 _ _) (W.mk ?_)
      (conv => whnf)
      refine ForkP.mk (fun h => by cases h) (fun _ => W.mk ?_)
      (conv => whnf)
      (refine IteP.mk (fun _ => W.mk ?_) (fun _ => W.mk ?_) <;> first | (exfalso; omega) | (conv => whnf))
      skip
      refine ScaP.g (ok2 drRd spsRd fun d steps => thinF d steps = true) (x := (d, steps)) ⟨_, _, rfl, drRd.grow (hG3.trans hg4) hdr, spsRd.grow (hG3.trans hg4) hsr, hthin⟩ (fun v hv2 => W.mk ?_)
      dsimp only at hv2
      rw [hE] at hv2
      dsimp only [faultOf] at hv2
      subst hv2
      (conv => whnf)
      (refine IteP.mk (fun _ => W.mk ?_) (fun _ => W.mk ?_) <;> first | (exfalso; omega) | (conv => whnf))
      (refine IteP.mk (fun _ => W.mk ?_) (fun _ => W.mk ?_) <;> first | (exfalso; omega) | (conv => whnf))
      (refine IteP.mk (fun _ => W.mk ?_) (fun _ => W.mk ?_) <;> first | (exfalso; omega) | (conv => whnf))
      (refine IteP.mk (fun _ => W.mk ?_) (fun _ => W.mk ?_) <;> first | (exfalso; omega) | (conv => whnf))
      (refine IteP.mk (fun _ => W.mk ?_) (fun _ => W.mk ?_) <;> first | (exfalso; omega) | (conv => whnf))
      (refine ScaP.g okU (G := fun _ => none) (x := ()) rfl (fun v hv => W.mk ?_); subst hv; (conv => whnf); refine ForkP.mk (fun _ => W.mk ?_) (fun h => by cases h); (conv => whnf); exact FinP.mk rfl)
    | fail kk =>
      rw [hE] at hq
      subst hq
      have hv := nonarg_valid (by rw [hE]; exact fun h => by cases h)
      (conv => whnf)
      refine RelP.g (ok1 drRd fun d => d.ws.length ≤ 100000 ∧ d.ks.length ≤ 100000) (x := d) ⟨_, rfl, drRd.grow hG3 hdr, by omega, by omega⟩ (Grow.refl _) (fun v G4 hg4 hq4 => W.mk ?_)
      obtain ⟨_, _, rfl, ⟨_, _, _, rfl, _, _⟩, ⟨_, _, _, rfl, _, _⟩⟩ := id hq4
      (conv => whnf)
      refine ScaP.g (ok1 drRd fun _ => True) (x := d) ⟨_, rfl, hq4, trivial⟩ (fun v hv2 => W.mk ?_)
      rw [show (if validF d = true then (0 : Int) else 1) = 0 by simp [hv]] at hv2
      subst hv2
      (conv => whnf)
      (refine IteP.mk (fun _ => W.mk ?_) (fun _ => W.mk ?_) <;> first | (exfalso; omega) | (conv => whnf))
      refine ScaP.g (ok1 drRd fun d => d.ks.length ≤ 100000 ∧ ∀ w ∈ d.ws, w.t.size ≤ 1000000) (x := d) ⟨_, rfl, drRd.grow (hG3.trans hg4) hdr, by omega, fun w hw => by have := t1 w hw; omega⟩ (fun v hv2 => W.mk ?_)
      rw [hv] at hv2
      subst hv2
      (conv => whnf)
      refine ForkP.mk (fun _ => W.mk ?_) (fun h => by cases h)
      (conv => whnf)
      refine PurP.of _ (neB4 _ _) (W.mk ?_)
      (conv => whnf)
      refine ForkP.mk (fun h => by cases h) (fun _ => W.mk ?_)
      (conv => whnf)
      (refine IteP.mk (fun _ => W.mk ?_) (fun _ => W.mk ?_) <;> first | (exfalso; omega) | (conv => whnf))
      skip
      refine ScaP.g (ok2 drRd spsRd fun d steps => thinF d steps = true) (x := (d, steps)) ⟨_, _, rfl, drRd.grow (hG3.trans hg4) hdr, spsRd.grow (hG3.trans hg4) hsr, hthin⟩ (fun v hv2 => W.mk ?_)
      dsimp only at hv2
      rw [hE] at hv2
      dsimp only [faultOf] at hv2
      subst hv2
      (conv => whnf)
      (refine IteP.mk (fun _ => W.mk ?_) (fun _ => W.mk ?_) <;> first | (exfalso; omega) | (conv => whnf))
      (refine IteP.mk (fun _ => W.mk ?_) (fun _ => W.mk ?_) <;> first | (exfalso; omega) | (conv => whnf))
      (refine IteP.mk (fun _ => W.mk ?_) (fun _ => W.mk ?_) <;> first | (exfalso; omega) | (conv => whnf))
      (refine IteP.mk (fun _ => W.mk ?_) (fun _ => W.mk ?_) <;> first | (exfalso; omega) | (conv => whnf))
      (refine IteP.mk (fun _ => W.mk ?_) (fun _ => W.mk ?_) <;> first | (exfalso; omega) | (conv => whnf))
      (refine ScaP.g okU (G := fun _ => none) (x := ()) rfl (fun v hv => W.mk ?_); subst hv; (conv => whnf); refine ForkP.mk (fun _ => W.mk ?_) (fun h => by cases h); (conv => whnf); exact FinP.mk rfl)
    | ok S =>
      rw [hE] at hq
      obtain ⟨hv, h80, hpl⟩ := endF_ok hE
      obtain ⟨xa, xb, rfl, hx1, hx2⟩ := hq
      obtain ⟨la, ln, lc, rfl, hl, hln⟩ := id hx1
      obtain ⟨va, vn, vc, rfl, _, _⟩ := id hx2
      (conv => whnf)
      refine RelP.g (ok1 drRd fun d => d.ws.length ≤ 100000 ∧ d.ks.length ≤ 100000) (x := d) ⟨_, rfl, drRd.grow hG3 hdr, by omega, by omega⟩ (Grow.refl _) (fun v G4 hg4 hq4 => W.mk ?_)
      obtain ⟨_, _, rfl, ⟨_, _, _, rfl, _, _⟩, ⟨_, _, _, rfl, _, _⟩⟩ := id hq4
      (conv => whnf)
      refine ScaP.g (ok1 drRd fun _ => True) (x := d) ⟨_, rfl, hq4, trivial⟩ (fun v hv2 => W.mk ?_)
      rw [show (if validF d = true then (0 : Int) else 1) = 0 by simp [hv]] at hv2
      subst hv2
      (conv => whnf)
      (refine IteP.mk (fun _ => W.mk ?_) (fun _ => W.mk ?_) <;> first | (exfalso; omega) | (conv => whnf))
      refine ScaP.g (ok1 drRd fun d => d.ks.length ≤ 100000 ∧ ∀ w ∈ d.ws, w.t.size ≤ 1000000) (x := d) ⟨_, rfl, drRd.grow (hG3.trans hg4) hdr, by omega, fun w hw => by have := t1 w hw; omega⟩ (fun v hv2 => W.mk ?_)
      rw [hv] at hv2
      subst hv2
      (conv => whnf)
      refine ForkP.mk (fun _ => W.mk ?_) (fun h => by cases h)
      (conv => whnf)
      refine PurP.of _ (neB4 _ _) (W.mk ?_)
      (conv => whnf)
      refine ForkP.mk (fun h => by cases h) (fun _ => W.mk ?_)
      (conv => whnf)
      (refine IteP.mk (fun _ => W.mk ?_) (fun _ => W.mk ?_) <;> first | (exfalso; omega) | (conv => whnf))
      skip
      refine ScaP.g (ok2 drRd spsRd fun d steps => thinF d steps = true) (x := (d, steps)) ⟨_, _, rfl, drRd.grow (hG3.trans hg4) hdr, spsRd.grow (hG3.trans hg4) hsr, hthin⟩ (fun v hv2 => W.mk ?_)
      dsimp only at hv2
      rw [hE] at hv2
      dsimp only [faultOf] at hv2
      subst hv2
      (conv => whnf)
      (refine IteP.mk (fun _ => W.mk ?_) (fun _ => W.mk ?_) <;> first | (exfalso; omega) | (conv => whnf))
      refine RelP.g (ok2 drRd spsRd fun d steps => validF d = true ∧ steps.length ≤ 1000 ∧ FineS steps) (x := (d, steps)) ⟨_, _, rfl, drRd.grow (hG3.trans hg4) hdr, spsRd.grow (hG3.trans hg4) hsr, hv, by show steps.length ≤ _; omega, thin_fine hthin⟩ (Grow.refl _) (fun v G5 hg5 hq => W.mk ?_)
      unfold refPlayR at hq
      dsimp only at hq
      rw [hpl] at hq
      obtain ⟨ya, yb, rfl, hy1, hy2⟩ := hq
      obtain ⟨_, _, _, rfl, _, _⟩ := id hy1
      obtain ⟨_, _, _, rfl, _, _⟩ := id hy2
      have hcnt := endF_small hE
      have hG5 := hg4.trans hg5
      (conv => whnf)
      (refine IteP.mk (fun _ => W.mk ?_) (fun _ => W.mk ?_) <;> first | (exfalso; omega) | (conv => whnf))
      (refine IteP.mk (fun _ => W.mk ?_) (fun _ => W.mk ?_) <;> first | (exfalso; omega) | (conv => whnf))
      refine ScaP.g (ok2 (slRd viE) (slRd itE) fun _ l => l.length ≤ 100000) (x := (shownF S, S.its)) ⟨_, _, rfl, hx1.grow hG5, hy1, by have := hcnt.1; show S.its.length ≤ _; omega⟩ (fun v hv2 => W.mk ?_)
      rw [show decide ((shownF S, S.its).1 = (placesF (shownF S, S.its).2).map fun i => ((shownF S, S.its).2.getD i default).vi) = true from decide_eq_true rfl] at hv2
      subst hv2
      (conv => whnf)
      refine ForkP.mk (fun _ => W.mk ?_) (fun h => by cases h)
      (conv => whnf)
      refine ScaP.g (ok2 (slRd intE) (slRd intE) fun _ _ => True) (x := (S.live, S.live)) ⟨_, _, rfl, hx2.grow hG5, hy2, trivial⟩ (fun v hv2 => W.mk ?_)
      have hv2 : v = .bool true := hv2.trans (congrArg Value.bool (decide_eq_true rfl))
      subst hv2
      (conv => whnf)
      refine ForkP.mk (fun _ => W.mk ?_) (fun h => by cases h)
      (conv => whnf)
      (refine ScaP.g okU (G := fun _ => none) (x := ()) rfl (fun v hv => W.mk ?_); subst hv; (conv => whnf); refine ForkP.mk (fun _ => W.mk ?_) (fun h => by cases h); (conv => whnf); exact FinP.mk rfl)
end Go.Proofs.YtfppbjfbghaclaaGreat

namespace Go.Proofs.YtfppbjfbghaclaaGreat
open Go.Pal Go.RowKit
set_option maxRecDepth 100000
set_option maxHeartbeats 4000000 in
theorem law10 : Sound Tryz.prog 10 id (gsca (args2 duRd suRd fun _ _ => True) fun _ v => v = .bool true) := by
  refine comp10.gsca (lawT (Tab.cons 14 _ thin14 body14 (Tab.cons 34 _ undoable34 body34 (Tab.cons 19 _ fault19 body19 (Tab.cons 20 _ rplay20 body20 (Tab.cons 35 _ may35 body35 (Tab.cons 23 _ ints23 body23 (Tab.nil _)))))))) (fun args G s h => ?_) (fun args G x h => ?_)
  · obtain ⟨u, v, rfl, _⟩ := h; simp
  · obtain ⟨d, steps⟩ := x
    obtain ⟨_, _, rfl, hdu, hsu, _⟩ := h
    dsimp only at hdu hsu
    obtain ⟨w, k, rfl, hw, hk⟩ := id hdu
    obtain ⟨wa, wn, wc, rfl, hwl, _⟩ := id hw
    obtain ⟨ka, kn, kc, rfl, hkl, _⟩ := id hk
    obtain ⟨a, n, c, rfl, hst, hn⟩ := id hsu
    (conv => whnf)
    refine ScaP.g (ok2 duRd suRd fun _ _ => True) (x := (d, steps)) ⟨_, _, rfl, hdu, hsu, trivial⟩ (fun v hv => W.mk ?_)
    subst hv
    dsimp only
    (conv => whnf)
    refine ForkP.mk (fun hthin => W.mk ?_) (fun ht => W.mk ?_) <;> (conv => whnf)
    rotate_left
    · (refine ScaP.g okU (G := fun _ => none) (x := ()) rfl (fun v hv => W.mk ?_); subst hv; (conv => whnf); refine ForkP.mk (fun _ => W.mk ?_) (fun h => by cases h); (conv => whnf); exact FinP.mk rfl)
    obtain ⟨t1, t2, t3, t4, t5⟩ := thin_iff.1 hthin
    have hdr := thin_dr hthin hdu
    have hsr := thin_sps hthin hsu
    refine RelP.g (ok1 drRd fun d => d.ws.length ≤ 100000 ∧ d.ks.length ≤ 100000) (x := d) ⟨_, rfl, hdr, by omega, by omega⟩ (Grow.refl _) (fun v G1 hg1 hq1 => W.mk ?_)
    obtain ⟨_, _, rfl, ⟨_, _, _, rfl, _, _⟩, ⟨_, _, _, rfl, _, _⟩⟩ := id hq1
    (conv => whnf)
    refine RelP.g (ok1 spsRd fun l => l.length ≤ 100000 ∧ FineS l) (x := steps) ⟨_, rfl, spsRd.grow hg1 hsr, by omega, thin_fine hthin⟩ (Grow.refl _) (fun v G2 hg2 hq2 => W.mk ?_)
    obtain ⟨_, _, _, rfl, _, _⟩ := id hq2
    (conv => whnf)
    refine RelP.g (ok2 drRd spsRd fun _ _ => True) (x := (d, steps)) ⟨_, _, rfl, drRd.grow hg2 hq1, hq2, trivial⟩ (Grow.refl _) (fun v G3 hg3 hq => W.mk ?_)
    unfold undoR at hq
    dsimp only at hq
    have hG3 := hg1.trans (hg2.trans hg3)
    cases hE : endF d steps with
    | arg =>
      rw [hE] at hq
      subst hq
      (conv => whnf)
      refine ScaP.g (ok2 drRd spsRd fun d steps => thinF d steps = true) (x := (d, steps)) ⟨_, _, rfl, drRd.grow hG3 hdr, spsRd.grow hG3 hsr, hthin⟩ (fun v hv2 => W.mk ?_)
      dsimp only at hv2
      rw [hE] at hv2
      dsimp only [faultOf] at hv2
      subst hv2
      (conv => whnf)
      (refine IteP.mk (fun _ => W.mk ?_) (fun _ => W.mk ?_) <;> first | (exfalso; omega) | (conv => whnf))
      (refine IteP.mk (fun _ => W.mk ?_) (fun _ => W.mk ?_) <;> first | (exfalso; omega) | (conv => whnf))
      (refine IteP.mk (fun _ => W.mk ?_) (fun _ => W.mk ?_) <;> first | (exfalso; omega) | (conv => whnf))
      (refine ScaP.g okU (G := fun _ => none) (x := ()) rfl (fun v hv => W.mk ?_); subst hv; (conv => whnf); refine ForkP.mk (fun _ => W.mk ?_) (fun h => by cases h); (conv => whnf); exact FinP.mk rfl)
    | limit =>
      rw [hE] at hq
      subst hq
      (conv => whnf)
      refine ScaP.g (ok2 drRd spsRd fun d steps => thinF d steps = true) (x := (d, steps)) ⟨_, _, rfl, drRd.grow hG3 hdr, spsRd.grow hG3 hsr, hthin⟩ (fun v hv2 => W.mk ?_)
      dsimp only at hv2
      rw [hE] at hv2
      dsimp only [faultOf] at hv2
      subst hv2
      (conv => whnf)
      (refine IteP.mk (fun _ => W.mk ?_) (fun _ => W.mk ?_) <;> first | (exfalso; omega) | (conv => whnf))
      (refine IteP.mk (fun _ => W.mk ?_) (fun _ => W.mk ?_) <;> first | (exfalso; omega) | (conv => whnf))
      (refine IteP.mk (fun _ => W.mk ?_) (fun _ => W.mk ?_) <;> first | (exfalso; omega) | (conv => whnf))
      (refine ScaP.g okU (G := fun _ => none) (x := ()) rfl (fun v hv => W.mk ?_); subst hv; (conv => whnf); refine ForkP.mk (fun _ => W.mk ?_) (fun h => by cases h); (conv => whnf); exact FinP.mk rfl)
    | fail kk =>
      rw [hE] at hq
      subst hq
      (conv => whnf)
      refine ScaP.g (ok2 drRd spsRd fun d steps => thinF d steps = true) (x := (d, steps)) ⟨_, _, rfl, drRd.grow hG3 hdr, spsRd.grow hG3 hsr, hthin⟩ (fun v hv2 => W.mk ?_)
      dsimp only at hv2
      rw [hE] at hv2
      dsimp only [faultOf] at hv2
      subst hv2
      (conv => whnf)
      (refine IteP.mk (fun _ => W.mk ?_) (fun _ => W.mk ?_) <;> first | (exfalso; omega) | (conv => whnf))
      (refine IteP.mk (fun _ => W.mk ?_) (fun _ => W.mk ?_) <;> first | (exfalso; omega) | (conv => whnf))
      (refine IteP.mk (fun _ => W.mk ?_) (fun _ => W.mk ?_) <;> first | (exfalso; omega) | (conv => whnf))
      (refine ScaP.g okU (G := fun _ => none) (x := ()) rfl (fun v hv => W.mk ?_); subst hv; (conv => whnf); refine ForkP.mk (fun _ => W.mk ?_) (fun h => by cases h); (conv => whnf); exact FinP.mk rfl)
    | ok S =>
      rw [hE] at hq
      obtain ⟨hv, h80, hpl⟩ := endF_ok hE
      obtain ⟨u, rfl, hu⟩ := hq
      obtain ⟨la, ln, lc, rfl, _, _⟩ := id hu
      (conv => whnf)
      refine ScaP.g (ok2 drRd spsRd fun d steps => thinF d steps = true) (x := (d, steps)) ⟨_, _, rfl, drRd.grow hG3 hdr, spsRd.grow hG3 hsr, hthin⟩ (fun v hv2 => W.mk ?_)
      dsimp only at hv2
      rw [hE] at hv2
      dsimp only [faultOf] at hv2
      subst hv2
      (conv => whnf)
      (refine IteP.mk (fun _ => W.mk ?_) (fun _ => W.mk ?_) <;> first | (exfalso; omega) | (conv => whnf))
      refine RelP.g (ok2 drRd spsRd fun d steps => validF d = true ∧ steps.length ≤ 1000 ∧ FineS steps) (x := (d, steps)) ⟨_, _, rfl, drRd.grow hG3 hdr, spsRd.grow hG3 hsr, hv, by show steps.length ≤ _; omega, thin_fine hthin⟩ (Grow.refl _) (fun v G5 hg5 hq => W.mk ?_)
      unfold refPlayR at hq
      dsimp only at hq
      rw [hpl] at hq
      obtain ⟨ya, yb, rfl, hy1, hy2⟩ := hq
      obtain ⟨ia, in_, ic, rfl, _, _⟩ := id hy1
      obtain ⟨va, vn, vc, rfl, hvl, hvn⟩ := id hy2
      have hvlen := hvl.len
      have hcnt := endF_small hE
      (conv => whnf)
      refine LoopP.of { α := Nat × Nat × List Value, fr := fun x => [(5, .v (.slice la ln lc)), (6, .v (I 0)), (9, .v (.slice ia in_ ic)), (10, .v (.slice va vn vc)), (12, .c (.row 1 x.2.1)), (13, .v (I x.1))], H := fun x => [(1, .row none x.2.1 x.2.2 3 1)], ok := fun x _ => x.1 ≤ S.live.length ∧ Row intE ((S.live.take x.1).filter fun n => undoableF S n) x.2.1 x.2.2, m := fun x => S.live.length - x.1 }
        (0, 0, []) (HeadP.of [(1, none)] ⟨rfl, rfl, rfl, rfl, rfl, rfl, trivial⟩ ⟨rfl, trivial⟩) ⟨Nat.zero_le _, Row.nil⟩ (fun _ => ⟨rfl, rfl⟩) (fun x G6 hg6 hx => W.mk ?_)
      obtain ⟨i, m, vs⟩ := x
      obtain ⟨hi, hr⟩ := hx
      dsimp only at hi hr
      dsimp only
      have hm : m ≤ i := by rw [hr.n]; exact Nat.le_trans (List.length_filter_le _ _) (by simp; omega)
      have hv9 : S.live.length ≤ 1000 := by have := hcnt.2.1; omega
      (conv => whnf)
      refine IteP.mk (fun hlt => W.mk ?_) (fun hge => W.mk ?_) <;> (conv => whnf)
      · have h1 : i < S.live.length := by omega
        have hc := (SlR.grow (G := G5) (G' := G6) (fun _ _ h => h) hvl hg6).el h1
        have hgd : S.live.getD i default = S.live[i] := by simp [h1]
        have hsu := filter_succ S.live (fun n => undoableF S n) h1
        rw [hgd] at hsu
        generalize S.live[i] = x at hc hsu
        repeat' (first | (refine ob ?_ ?_; (first | trivial | omega | (simp only [inR]; omega) | exact ble (by rfl) | exact SlR.some ‹_› (by omega)); (conv => whnf)) | (first | (refine ra ‹_› (by rfl) ?_; (conv => whnf)) | (refine rb ‹_› (by rfl) ?_; (conv => whnf)) | (refine rc ‹_› (by rfl) ?_; (conv => whnf)) | (refine rd ‹_› (by rfl) ?_; (conv => whnf))))
        refine ScaP.g (ok3 (slRd itE) (slRd intE) intRd fun _ _ _ => True) (x := (S.its, S.live, x)) ⟨_, _, _, rfl, hy1.grow hg6, hy2.grow hg6, rfl, trivial⟩ (fun v hv2 => W.mk ?_)
        have hv2 : v = .bool (undoableF S x) := hv2
        subst hv2
        (conv => whnf)
        refine ForkP.mk (fun hq => W.mk ?_) (fun hq => W.mk ?_) <;> (conv => whnf)
        · rw [if_pos hq] at hsu
          have hr2 := hr.snoc x
          rw [← hsu] at hr2
          repeat' (first | (refine ob ?_ ?_; (first | trivial | omega | (simp only [inR]; omega) | exact ble (by rfl) | exact SlR.some ‹_› (by omega)); (conv => whnf)) | (first | (refine ra ‹_› (by rfl) ?_; (conv => whnf)) | (refine rb ‹_› (by rfl) ?_; (conv => whnf)) | (refine rc ‹_› (by rfl) ?_; (conv => whnf)) | (refine rd ‹_› (by rfl) ?_; (conv => whnf))))
          exact RoundP.of (i + 1, m + 1, _) (HeadP.of [(1, some 69)] ⟨rfl, rfl, rfl, rfl, rfl, rfl, trivial⟩ ⟨rfl, trivial⟩) ⟨h1, hr2⟩ (by show S.live.length - (i + 1) < S.live.length - i; omega)
        · rw [if_neg (by rw [hq]; decide)] at hsu
          rw [← hsu] at hr
          repeat' (refine ob ?_ ?_; (first | trivial | omega | (simp only [inR]; omega) | exact ble (by rfl) | exact SlR.some ‹_› (by omega)); (conv => whnf))
          exact RoundP.of (i + 1, m, _) (HeadP.of [] ⟨rfl, rfl, rfl, rfl, rfl, rfl, trivial⟩ ⟨rfl, trivial⟩) ⟨h1, hr⟩ (by show S.live.length - (i + 1) < S.live.length - i; omega)
      · have : i = S.live.length := by omega
        subst this
        rw [List.take_length] at hr
        (refine IteP.mk (fun _ => W.mk ?_) (fun _ => W.mk ?_) <;> first | (exfalso; omega) | (conv => whnf))
        refine PubP.mk (fun ga gc G7 hg7 hp => W.mk ?_)
        (conv => whnf)
        refine ScaP.g (ok2 (slRd intE) (slRd intE) fun _ _ => True) (x := (undosF S, undosF S)) ⟨_, _, rfl, hu.grow (hg5.trans (hg6.trans hg7)), hr.pub hp (by omega), trivial⟩ (fun v hv2 => W.mk ?_)
        have hv2 : v = .bool true := hv2.trans (congrArg Value.bool (decide_eq_true rfl))
        subst hv2
        (conv => whnf)
        refine ForkP.mk (fun _ => W.mk ?_) (fun h => by cases h)
        (conv => whnf)
        (refine ScaP.g okU (G := fun _ => none) (x := ()) rfl (fun v hv => W.mk ?_); subst hv; (conv => whnf); refine ForkP.mk (fun _ => W.mk ?_) (fun h => by cases h); (conv => whnf); exact FinP.mk rfl)
end Go.Proofs.YtfppbjfbghaclaaGreat
