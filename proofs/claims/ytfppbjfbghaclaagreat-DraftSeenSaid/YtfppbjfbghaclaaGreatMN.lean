/- Layer 3 (plain): what is shown; protected words stay. Layer 3: the law of DraftKept. Layer 3 (plain): what holds of every sheet; a change that is undone at once; when all changes are undone. Layer 3 (plain): what the traces of a sheet are. Layer 3: the law of DraftSound. Layer 3 (plain): words that are seen, words that are lost. Layer 3: the law of DraftSeen. -/
import Derived.Test.YtfppbjfbghaclaaGreatML
import Derived.Test.YtfppbjfbghaclaaGreatMI
import Derived.Test.YtfppbjfbghaclaaGreatMK
set_option linter.unusedSimpArgs false
set_option linter.unusedVariables false
namespace Go.Proofs.YtfppbjfbghaclaaGreat
open Go.Pal Go.RowKit
set_option maxRecDepth 100000
theorem play_inv {d : Dr} {I : Sh → Prop} (hI : ∀ {S S' : Sh} {x : Sp}, PosL S → I S → stepF d S x = some S' → I S') : ∀ {steps : List Sp} {S S' : Sh} {i : Nat}, PosL S → I S → playF d S steps i = .inr S' → I S' ∧ PosL S'
  | [], S, S', i, hp, h, e => by cases e; exact ⟨h, hp⟩
  | x :: r, S, S', i, hp, h, e => by
    simp only [playF] at e
    split at e
    · rename_i S1 hs
      exact play_inv hI (posL_step hp hs) (hI hp h hs) e
    · cases e
theorem posL_begin (d : Dr) : PosL (beginS d) := ⟨Int.le_refl _, fun n hn => by cases hn⟩
theorem endF_ok {d : Dr} {steps : List Sp} {S : Sh} (h : endF d steps = .ok S) : validF d = true ∧ steps.length ≤ 80 ∧ playF d (beginS d) steps 0 = .inr S := by
  unfold endF at h
  split at h
  · cases h
  · rename_i hv
    split at h
    · cases h
    · split at h
      · cases h
      · rename_i e; cases h; exact ⟨by simpa using hv, by omega, e⟩
end Go.Proofs.YtfppbjfbghaclaaGreat

namespace Go.Proofs.YtfppbjfbghaclaaGreat
open Go.Pal Go.RowKit
set_option maxRecDepth 100000
theorem ready_iff {d : Dr} {steps : List Sp} : readyF d steps = true ↔ thinF d steps = true ∧ ∃ S, endF d steps = .ok S := by
  rw [readyF, Bool.and_eq_true]
  refine and_congr_right fun _ => ?_
  cases endF d steps <;> simp [okE]
abbrev lawT (T : Tab Tryz.prog) : Tab Tryz.prog := Tab.cons 15 _ awake15 body15 (Tab.cons 25 _ ready25 body25 (Tab.cons 17 _ draft17 body17 (Tab.cons 18 _ steps18 body18 (Tab.cons 26 _ play26 body26 T))))
end Go.Proofs.YtfppbjfbghaclaaGreat

namespace Go.Proofs.YtfppbjfbghaclaaGreat
open Go.Pal Go.RowKit
set_option maxRecDepth 100000
def It.key (y : It) : ByteArray × Int × Int := (y.t, y.o, y.m)
theorem goneF_key (n : Int) : ∀ (ps : List Nat) (l : List It), (goneF l n ps).map It.key = l.map It.key
  | [], l => rfl
  | p :: ps, l => by
    have e : goneF l n (p :: ps) = goneF (l.set p { l.getD p default with g := n }) n ps := rfl
    rw [e, goneF_key n ps, List.map_set]
    by_cases hp : p < l.length
    · have hgd : l.getD p default = l[p] := by simp [hp]
      rw [hgd]
      have : (l.map It.key)[p]'(by simpa using hp) = It.key l[p] := by simp
      show (l.map It.key).set p (It.key l[p]) = _
      rw [← this, List.set_getElem_self]
    · rw [List.set_eq_of_length_le (by simpa using hp)]
theorem goneF_of (n : Int) : ∀ (ps : List Nat) (l : List It), ∀ y ∈ goneF l n ps, ∃ z ∈ l, y.key = z.key ∧ (y.g = z.g ∨ y.g = n)
  | [], l, y, hy => ⟨y, hy, rfl, .inl rfl⟩
  | p :: ps, l, y, hy => by
    have hy : y ∈ goneF (l.set p { l.getD p default with g := n }) n ps := hy
    obtain ⟨z, hz, h1, h2⟩ := goneF_of n ps _ y hy
    by_cases hp : p < l.length
    · rcases List.mem_or_eq_of_mem_set hz with h3 | rfl
      · exact ⟨z, h3, h1, h2⟩
      · have hgd : l.getD p default = l[p] := by simp [hp]
        refine ⟨l[p], List.getElem_mem hp, ?_, .inr ?_⟩
        · rw [h1, hgd]; rfl
        · rcases h2 with h2 | h2
          · exact h2
          · exact h2
    · rw [List.set_eq_of_length_le (by omega)] at hz
      exact ⟨z, hz, h1, h2⟩
theorem backF_key (n : Int) (y : It) : (backF n y).key = y.key := by unfold backF; split <;> rfl
theorem backF_m (n : Int) (y : It) : (backF n y).m = y.m := by unfold backF; split <;> rfl
theorem key_m {y z : It} (h : y.key = z.key) : y.m = z.m := congrArg (fun k => k.2.2) h
def baseF (l : List It) : List (ByteArray × Int × Int) := (l.map It.key).filter fun k => k.2.2 = 0
structure Rch (d : Dr) (S : Sh) : Prop where
  wf : Inv d.ws.length S
  pos : PosL S
  le : ∀ n ∈ S.live, n ≤ S.ch
  inc : S.live.Pairwise (· < ·)
  gl : ∀ y ∈ S.its, y.g = 0 ∨ y.g ∈ S.live
  ml : ∀ y ∈ S.its, y.m = 0 ∨ y.m ∈ S.live
  base : baseF S.its = (List.range d.ws.length).map fun (i : Nat) => ((d.ws.getD i default).t, (i : Int), 0)
theorem rch_begin (d : Dr) : Rch d (beginS d) := by
  refine ⟨inv_begin d, posL_begin d, fun n hn => (by cases hn), List.Pairwise.nil, fun y hy => ?_, fun y hy => ?_, ?_⟩
  · obtain ⟨i, hi, rfl⟩ := List.mem_map.1 hy; exact .inl rfl
  · obtain ⟨i, hi, rfl⟩ := List.mem_map.1 hy; exact .inl rfl
  · show ((List.map _ _).map It.key).filter _ = _
    rw [List.map_map, List.filter_eq_self.2]
    · rfl
    · intro k hk
      obtain ⟨i, hi, rfl⟩ := List.mem_map.1 hk
      rfl
theorem baseF_app (l r : List It) : baseF (l ++ r) = baseF l ++ baseF r := by rw [baseF, List.map_append, List.filter_append]; rfl
theorem rch_step {d : Dr} {S S' : Sh} {x : Sp} (h : Rch d S) (hs : stepF d S x = some S') : Rch d S' := by
  refine ⟨inv_step h.pos.1 h.wf hs, posL_step h.pos hs, ?_, ?_, ?_, ?_, ?_⟩ <;> unfold stepF at hs <;> split at hs
  · unfold changeF at hs
    split at hs
    · cases hs
      intro n hn
      show n ≤ S.ch + 1
      rcases List.mem_append.1 hn with hn | hn
      · have := h.le n hn; omega
      · have : n = S.ch + 1 := by simpa using hn
        omega
    · cases hs
  · unfold undoF at hs
    split at hs
    · cases hs
      exact fun n hn => h.le n (List.mem_filter.1 hn).1
    · cases hs
  · unfold changeF at hs
    split at hs
    · cases hs
      refine List.pairwise_append.2 ⟨h.inc, by simp, fun a ha b hb => ?_⟩
      have : b = S.ch + 1 := by simpa using hb
      have := h.le a ha
      omega
    · cases hs
  · unfold undoF at hs
    split at hs
    · cases hs; exact h.inc.filter _
    · cases hs
  · unfold changeF at hs
    split at hs
    · cases hs
      intro y hy
      show y.g = 0 ∨ y.g ∈ S.live ++ [S.ch + 1]
      have old : y ∈ goneF S.its (S.ch + 1) (cutF S.its x) → y.g = 0 ∨ y.g ∈ S.live ++ [S.ch + 1] := fun hm => by
        obtain ⟨z, hz, _, h2⟩ := goneF_of _ _ _ y hm
        rcases h2 with h2 | h2
        · rw [h2]; exact (h.gl z hz).imp id fun h3 => List.mem_append_left _ h3
        · rw [h2]; exact .inr (by simp)
      rcases List.mem_append.1 hy with hy | hy
      · rcases List.mem_append.1 hy with hy | hy
        · exact old (List.mem_of_mem_take hy)
        · obtain ⟨t, _, rfl⟩ := List.mem_map.1 hy; exact .inl rfl
      · exact old (List.mem_of_mem_drop hy)
    · cases hs
  · unfold undoF at hs
    split at hs
    · cases hs
      intro y hy
      obtain ⟨z, hz, rfl⟩ := List.mem_map.1 hy
      show (backF x.u z).g = 0 ∨ (backF x.u z).g ∈ S.live.filter (· != x.u)
      unfold backF
      split
      · exact .inl rfl
      · rename_i hne
        rcases h.gl z (List.mem_filter.1 hz).1 with h3 | h3
        · exact .inl h3
        · exact .inr (List.mem_filter.2 ⟨h3, by simpa using hne⟩)
    · cases hs
  · unfold changeF at hs
    split at hs
    · cases hs
      intro y hy
      show y.m = 0 ∨ y.m ∈ S.live ++ [S.ch + 1]
      have old : y ∈ goneF S.its (S.ch + 1) (cutF S.its x) → y.m = 0 ∨ y.m ∈ S.live ++ [S.ch + 1] := fun hm => by
        obtain ⟨z, hz, h1, _⟩ := goneF_of _ _ _ y hm
        rw [key_m h1]; exact (h.ml z hz).imp id fun h3 => List.mem_append_left _ h3
      rcases List.mem_append.1 hy with hy | hy
      · rcases List.mem_append.1 hy with hy | hy
        · exact old (List.mem_of_mem_take hy)
        · obtain ⟨t, _, rfl⟩ := List.mem_map.1 hy; exact .inr (by simp)
      · exact old (List.mem_of_mem_drop hy)
    · cases hs
  · unfold undoF at hs
    split at hs
    · cases hs
      intro y hy
      obtain ⟨z, hz, rfl⟩ := List.mem_map.1 hy
      obtain ⟨hz1, hz2⟩ := List.mem_filter.1 hz
      show (backF x.u z).m = 0 ∨ (backF x.u z).m ∈ S.live.filter (· != x.u)
      rw [backF_m]
      rcases h.ml z hz1 with h3 | h3
      · exact .inl h3
      · exact .inr (List.mem_filter.2 ⟨h3, hz2⟩)
    · cases hs
  · unfold changeF at hs
    split at hs
    · cases hs
      show baseF (insF (goneF S.its (S.ch + 1) (cutF S.its x)) (placeF S.its x) (putF (S.ch + 1) x.put)) = _
      have hput : baseF (putF (S.ch + 1) x.put) = [] := by
        rw [baseF, List.filter_eq_nil_iff]
        intro k hk
        simp only [putF, List.map_map, List.mem_map, Function.comp] at hk
        obtain ⟨_, _, rfl⟩ := hk
        have := h.pos.1
        show ¬ decide (S.ch + 1 = 0) = true
        rw [decide_eq_false (by omega)]; decide
      rw [insF, baseF_app, baseF_app, hput, List.append_nil, ← baseF_app, List.take_append_drop, baseF, goneF_key]
      exact h.base
    · cases hs
  · unfold undoF at hs
    split at hs
    · rename_i hu
      cases hs
      have hu1 : 1 ≤ x.u := by
        unfold undoableF at hu
        exact h.pos.2 _ (of_decide_eq_true (Bool.and_eq_true_iff.1 hu).1)
      show baseF ((S.its.filter fun y => y.m != x.u).map (backF x.u)) = _
      rw [← h.base]
      have key : ∀ l : List It, baseF ((l.filter fun y => y.m != x.u).map (backF x.u)) = baseF l := by
        intro l
        rw [baseF, baseF, List.map_map]
        have : (It.key ∘ backF x.u) = It.key := funext fun y => backF_key x.u y
        rw [this, List.filter_map, List.filter_map, List.filter_filter]
        congr 1
        apply List.filter_congr
        intro y _
        simp only [Function.comp, It.key]
        by_cases h0 : y.m = 0
        · simp [h0]; omega
        · simp [h0]
      exact key S.its
    · cases hs
theorem rch_play {d : Dr} {steps : List Sp} {S S' : Sh} {i : Nat} (h : Rch d S) (e : playF d S steps i = .inr S') : Rch d S' :=
  (play_inv (I := Rch d) (fun _ h hs => rch_step h hs) h.pos h e).1
theorem rch_end {d : Dr} {steps : List Sp} {S : Sh} (h : endF d steps = .ok S) : Rch d S := rch_play (rch_begin d) (endF_ok h).2.2
theorem places_g {l : List It} {p : Nat} (h : p ∈ placesF l) : (l.getD p default).g = 0 := by
  simp only [placesF, placesN, List.mem_filter, decide_eq_true_eq] at h; exact h.2
end Go.Proofs.YtfppbjfbghaclaaGreat

namespace Go.Proofs.YtfppbjfbghaclaaGreat
open Go.Pal Go.RowKit
set_option maxRecDepth 100000
def seenAt (S : Sh) (i : Nat) : It := S.its.getD ((placesF S.its).getD i 0) default
def seenN (S : Sh) : Nat := (placesF S.its).length
theorem shown_n (S : Sh) : (shownF S).length = seenN S := by rw [shownF, List.length_map]; rfl
theorem traces_n (d : Dr) (S : Sh) : (tracesF d S).length = seenN S := by rw [tracesF, List.length_map]; rfl
theorem shown_at (S : Sh) {i : Nat} (h : i < (shownF S).length) : (shownF S)[i] = (seenAt S i).vi := by
  have h' : i < (placesF S.its).length := by rw [shown_n] at h; exact h
  have e : (placesF S.its).getD i 0 = (placesF S.its)[i] := by rw [List.getD_eq_getElem?_getD, List.getElem?_eq_getElem h']; rfl
  rw [seenAt, e]
  simp only [shownF, List.getElem_map]
theorem traces_at (d : Dr) (S : Sh) {i : Nat} (h : i < (tracesF d S).length) : (tracesF d S)[i] = traceF d (ofF S.its (seenAt S i)) := by
  have h' : i < (placesF S.its).length := by rw [traces_n] at h; exact h
  have e : (placesF S.its).getD i 0 = (placesF S.its)[i] := by rw [List.getD_eq_getElem?_getD, List.getElem?_eq_getElem h']; rfl
  rw [seenAt, e]
  simp only [tracesF, List.getElem_map]
theorem seen_mem {S : Sh} {i : Nat} (h : i < seenN S) : seenAt S i ∈ S.its ∧ (seenAt S i).g = 0 := by
  have h' : i < (placesF S.its).length := h
  have e : (placesF S.its).getD i 0 = (placesF S.its)[i] := by rw [List.getD_eq_getElem?_getD, List.getElem?_eq_getElem h']; rfl
  have hm := List.getElem_mem h'
  rw [← e] at hm
  have hg := places_g hm
  obtain ⟨h1, _⟩ := List.mem_filter.1 hm
  have h2 := List.mem_range.1 h1
  refine ⟨?_, hg⟩
  rw [seenAt, List.getD_eq_getElem?_getD, List.getElem?_eq_getElem h2]
  exact List.getElem_mem h2
theorem seen_n {d : Dr} {steps : List Sp} {S : Sh} (h : endF d steps = .ok S) : seenN S ≤ 1000 := by
  have h1 := (endF_small h).1
  have h2 : seenN S ≤ S.its.length := placesN_le S.its S.its.length
  omega
theorem seen_incr {d : Dr} {S : Sh} (hr : Rch d S) {i j : Nat} (hij : i < j) (hj : j < seenN S) (hi0 : 0 ≤ (seenAt S i).o) (hj0 : 0 ≤ (seenAt S j).o) : (seenAt S i).o < (seenAt S j).o := by
  have hb : (baseF S.its).Pairwise fun a b => a.2.1 < b.2.1 := by
    rw [hr.base, List.pairwise_map]
    exact (pair_range _).imp fun h => by dsimp only; omega
  rw [baseF, List.pairwise_filter, List.pairwise_map] at hb
  have hj' : j < (placesF S.its).length := hj
  have hi' : i < (placesF S.its).length := by omega
  have ei : (placesF S.its).getD i 0 = (placesF S.its)[i] := by rw [List.getD_eq_getElem?_getD, List.getElem?_eq_getElem hi']; rfl
  have ej : (placesF S.its).getD j 0 = (placesF S.its)[j] := by rw [List.getD_eq_getElem?_getD, List.getElem?_eq_getElem hj']; rfl
  have hp : (placesF S.its).Pairwise (· < ·) := (pair_range _).filter _
  have hlt := List.pairwise_iff_getElem.1 hp i j hi' hj' hij
  have hjn := List.mem_range.1 (List.mem_filter.1 (List.getElem_mem hj')).1
  have hin : (placesF S.its)[i] < S.its.length := by omega
  have h := List.pairwise_iff_getElem.1 hb _ _ hin hjn hlt
  have qi : seenAt S i = S.its[(placesF S.its)[i]] := by rw [seenAt, ei, List.getD_eq_getElem?_getD, List.getElem?_eq_getElem hin]; rfl
  have qj : seenAt S j = S.its[(placesF S.its)[j]] := by rw [seenAt, ej, List.getD_eq_getElem?_getD, List.getElem?_eq_getElem hjn]; rfl
  rw [← qi, ← qj] at h
  have mz : ∀ {k : Nat}, k < seenN S → 0 ≤ (seenAt S k).o → (seenAt S k).m = 0 := fun hk h0 => by
    rcases (hr.wf _ (seen_mem hk).1).1 with h3 | h3
    · exact h3.2.2
    · omega
  exact h (decide_eq_true (mz (by omega) hi0)) (decide_eq_true (mz hj hj0))
theorem sec_step {d : Dr} (hv : validF d = true) {j : Nat} (hj : j < d.ws.length) : 0 ≤ (d.ws.getD j default).s ∧ (0 < j → (d.ws.getD (j - 1) default).s ≤ (d.ws.getD j default).s) := by
  have h := ((valid_iff d).1 hv).2.1 j hj
  simp only [rWo, Bool.and_eq_true, inF, decide_eq_true_eq, Bool.not_eq_true', Bool.and_eq_false_iff, decide_eq_false_iff_not] at h
  refine ⟨h.1.1.2.1, fun h0 => ?_⟩
  rcases h.2 with h2 | h2 <;> omega
theorem sec_mono {d : Dr} (hv : validF d = true) (i : Nat) : ∀ (k : Nat), i + k < d.ws.length → (d.ws.getD i default).s ≤ (d.ws.getD (i + k) default).s
  | 0, _ => Int.le_refl _
  | k + 1, h => by
    have h1 := sec_mono hv i k (by omega)
    have h2 := (sec_step hv h).2 (by omega)
    rw [show i + (k + 1) - 1 = i + k by omega] at h2
    exact Int.le_trans h1 h2
theorem word_mono {d : Dr} (hv : validF d = true) {a b : Int} (h0 : 0 ≤ a) (h : a ≤ b) (hb : b < d.ws.length) : (wordAt d a).s ≤ (wordAt d b).s := by
  have := sec_mono hv a.toNat (b.toNat - a.toNat) (by omega)
  rw [show a.toNat + (b.toNat - a.toNat) = b.toNat by omega] at this
  exact this
theorem word_at {d : Dr} {a : Int} (h : a.toNat < d.ws.length) : wordAt d a = d.ws[a.toNat] := by rw [wordAt, List.getD_eq_getElem?_getD, List.getElem?_eq_getElem h]; rfl
structure TrOk (d : Dr) (t : Tr) : Prop where
  rng : ∀ x ∈ t.src, 0 ≤ x ∧ x < d.ws.length
  inc : t.src.Pairwise (· < ·)
  len : (t.src.length : Int) ≤ d.ws.length
  non : t.src.length = 0 → t.f = -1 ∧ t.l = -1 ∧ t.rep.length = 0
  has : ∀ x ∈ t.src, (wordAt d x).r ∈ t.rep
  first : ∀ h : 0 < t.src.length, t.f = (wordAt d t.src[0]).s
  last : ∀ h : 0 < t.src.length, t.l = (wordAt d (t.src[t.src.length - 1]'(by omega))).s
  le : 0 < t.src.length → t.f ≤ t.l
  rep : t.rep.length ≤ t.src.length
theorem sortF_le (l : List Int) : (sortF l).length ≤ l.length := by
  have h := compact_le (l.mergeSort fun x y => decide (x ≤ y))
  have h2 : (l.mergeSort fun x y => decide (x ≤ y)).length = _ := List.length_mergeSort _
  rw [sortF]
  omega
theorem traceF_ok {d : Dr} (hv : validF d = true) {src : List Int} (hm : ∀ x ∈ src, 0 ≤ x ∧ x < d.ws.length) (hp : src.Pairwise (· < ·)) : TrOk d (traceF d src) := by
  have hf : ∀ h : 0 < src.length, fstN d src src.length = (wordAt d src[0]).s := fun h => by
    rw [fstN, if_neg (by omega), List.getD_eq_getElem?_getD, List.getElem?_eq_getElem h]; rfl
  have hl : ∀ h : 0 < src.length, lstN d src src.length = (wordAt d (src[src.length - 1]'(by omega))).s := fun h => by
    rw [lstN, if_neg (by omega), List.getD_eq_getElem?_getD, List.getElem?_eq_getElem (by omega)]; rfl
  refine ⟨hm, hp, ?_, fun h => ?_, fun x hx => ?_, hf, hl, fun h => ?_, ?_⟩
  · have := incr_len hp (fun x hx => hm x hx) (a := 0) (N := d.ws.length) (by omega)
    show (src.length : Int) ≤ _
    omega
  · have : src = [] := List.eq_nil_of_length_eq_zero h
    subst this
    exact ⟨rfl, rfl, Nat.le_zero.1 (sortF_le [])⟩
  · show (wordAt d x).r ∈ sortF (repN d src src.length)
    rw [sortF_mem, repN, List.take_length]
    exact List.mem_map_of_mem (f := fun n => (wordAt d n).r) hx
  · show fstN d src src.length ≤ lstN d src src.length
    have h : 0 < src.length := h
    rw [hf h, hl h]
    have h2 := hm _ (List.getElem_mem (l := src) (n := src.length - 1) (by omega))
    have h1 := hm _ (List.getElem_mem h)
    refine word_mono hv h1.1 ?_ h2.2
    by_cases h3 : src.length = 1
    · have : ∀ k (hk : k < src.length), k = 0 → src[0] ≤ src[k] := fun k hk e => by subst e; exact Int.le_refl _
      exact this _ (by omega) (by omega)
    · exact Int.le_of_lt (List.pairwise_iff_getElem.1 hp 0 (src.length - 1) h (by omega) (by omega))
  · have := sortF_le (repN d src src.length)
    have h2 : (repN d src src.length).length = src.length := by simp [repN]
    show (sortF _).length ≤ src.length
    omega
theorem src_mem {d : Dr} {S : Sh} (hr : Rch d S) {i : Nat} (h : i < seenN S) : ∀ x ∈ ofF S.its (seenAt S i), 0 ≤ x ∧ x < d.ws.length :=
  ofF_mem (Inv.wf hr.wf) (Inv.wf hr.wf _ (seen_mem h).1)
theorem ofF_lt {N : Nat} {L : List It} (hw : WfL N L) {y : It} (hy : WfI N y) : (ofF L y).Pairwise (· < ·) := by
  unfold ofF
  split
  · simp
  · rename_i ho
    rcases hy with h | h
    · exact absurd h.1 ho
    · rw [grpF_eq hw h.2.1]; exact sortF_lt _
theorem trace_ok {d : Dr} {S : Sh} (hv : validF d = true) (hr : Rch d S) {i : Nat} (h : i < (tracesF d S).length) : TrOk d (tracesF d S)[i] := by
  have h1 : i < seenN S := by rw [traces_n] at h; exact h
  rw [traces_at d S h]
  exact traceF_ok hv (src_mem hr h1) (ofF_lt (Inv.wf hr.wf) (Inv.wf hr.wf _ (seen_mem h1).1))
def LastOk (d : Dr) (S : Sh) (i : Nat) (z : Int) : Prop := ∀ j, i ≤ j → j < seenN S → 0 ≤ (seenAt S j).o → z ≤ (wordAt d (seenAt S j).o).s
theorem last_zero {d : Dr} {S : Sh} (hv : validF d = true) (hr : Rch d S) : LastOk d S 0 0 := fun j _ hj h0 => by
  rcases (hr.wf _ (seen_mem hj).1).1 with h3 | h3
  · exact (sec_step hv (j := (seenAt S j).o.toNat) (by omega)).1
  · omega
theorem last_skip {d : Dr} {S : Sh} {i : Nat} {z : Int} (h : LastOk d S i z) : LastOk d S (i + 1) z := fun j hj h1 h2 => h j (by omega) h1 h2
theorem last_step {d : Dr} {S : Sh} (hv : validF d = true) (hr : Rch d S) {i : Nat} {z : Int} (h : LastOk d S i z) (hi : i < (tracesF d S).length) (hi2 : i < (shownF S).length) (h0 : 0 ≤ (shownF S)[i].o) : LastOk d S (i + 1) (tracesF d S)[i].f ∧ z ≤ (tracesF d S)[i].f := by
  have h1 : i < seenN S := by rw [traces_n] at hi; exact hi
  rw [shown_at S hi2] at h0
  have h0 : 0 ≤ (seenAt S i).o := h0
  have hf : (tracesF d S)[i].f = (wordAt d (seenAt S i).o).s := by
    rw [traces_at d S hi, ofF, if_pos h0]; rfl
  rw [hf]
  refine ⟨fun j hj h2 h3 => ?_, h i (Nat.le_refl _) h1 h0⟩
  have h4 := seen_incr hr (by omega : i < j) h2 h0 h3
  refine word_mono hv h0 (by omega) ?_
  rcases (hr.wf _ (seen_mem h2).1).1 with h5 | h5
  · exact h5.2.1
  · omega
end Go.Proofs.YtfppbjfbghaclaaGreat

namespace Go.Proofs.YtfppbjfbghaclaaGreat
open Go.Pal Go.RowKit
set_option maxRecDepth 100000
set_option maxHeartbeats 8000000 in
theorem law8 : Sound Tryz.prog 8 id (gsca (args2 duRd suRd fun _ _ => True) fun _ v => v = .bool true) := by
  refine comp8.gsca (lawT (Tab.cons 16 _ traces16 body16 (Tab.cons 27 _ in27 body27 (Tab.cons 24 _ has24 body24 (Tab.nil _))))) (fun args G s h => ?_) (fun args G x h => ?_)
  · obtain ⟨u, v, rfl, _⟩ := h; simp
  · obtain ⟨d, steps⟩ := x
    obtain ⟨_, _, rfl, hdu, hsu, _⟩ := h
    dsimp only at hdu hsu
    obtain ⟨w, k, rfl, hw, hk⟩ := id hdu
    obtain ⟨wa, wn, wc, rfl, hwl, _⟩ := id hw
    obtain ⟨ka, kn, kc, rfl, hkl, _⟩ := id hk
    obtain ⟨a, n, c, rfl, hst, hn⟩ := id hsu
    have hlen := hst.len
    have hwlen := hwl.len
    (conv => whnf)
    refine IteP.mk (fun h14 => W.mk ?_) (fun h14 => W.mk ?_) <;> (conv => whnf)
    · (refine ScaP.g okU (G := fun _ => none) (x := ()) rfl (fun v hv => W.mk ?_); subst hv; (conv => whnf); refine ForkP.mk (fun _ => W.mk ?_) (fun h => by cases h); (conv => whnf); exact FinP.mk rfl)
    refine ScaP.g (ok2 duRd suRd fun _ _ => True) (x := (d, steps)) ⟨_, _, rfl, hdu, hsu, trivial⟩ (fun v hv => W.mk ?_)
    subst hv
    dsimp only
    (conv => whnf)
    refine ForkP.mk (fun ht => W.mk ?_) (fun ht => W.mk ?_) <;> (conv => whnf)
    rotate_left
    · (refine ScaP.g okU (G := fun _ => none) (x := ()) rfl (fun v hv => W.mk ?_); subst hv; (conv => whnf); refine ForkP.mk (fun _ => W.mk ?_) (fun h => by cases h); (conv => whnf); exact FinP.mk rfl)
    obtain ⟨hthin, S, hS⟩ := ready_iff.1 ht
    obtain ⟨t1, t2, t3, t4, t5⟩ := thin_iff.1 hthin
    have hdr := thin_dr hthin hdu
    have hsr := thin_sps hthin hsu
    obtain ⟨hv, h80, hpl⟩ := endF_ok hS
    have hrch := rch_end hS
    have hsn := seen_n hS
    refine RelP.g (ok1 drRd fun d => d.ws.length ≤ 100000 ∧ d.ks.length ≤ 100000) (x := d) ⟨_, rfl, hdr, by omega, by omega⟩ (Grow.refl _) (fun v G1 hg1 hq1 => W.mk ?_)
    obtain ⟨_, _, rfl, ⟨_, _, _, rfl, _, _⟩, ⟨_, _, _, rfl, _, _⟩⟩ := id hq1
    (conv => whnf)
    refine RelP.g (ok1 spsRd fun l => l.length ≤ 100000 ∧ FineS l) (x := steps) ⟨_, rfl, spsRd.grow hg1 hsr, by omega, thin_fine hthin⟩ (Grow.refl _) (fun v G2 hg2 hq2 => W.mk ?_)
    obtain ⟨_, _, _, rfl, _, _⟩ := id hq2
    (conv => whnf)
    refine RelP.g (ok2 drRd spsRd fun _ _ => True) (x := (d, steps)) ⟨_, _, rfl, drRd.grow hg2 hq1, hq2, trivial⟩ (Grow.refl _) (fun v G3 hg3 hq => W.mk ?_)
    unfold showR at hq
    dsimp only at hq
    rw [hS] at hq
    obtain ⟨xa, xb, rfl, ⟨la, ln, lc, rfl, hl, hln⟩, ⟨va, vn, vc, rfl, _, _⟩⟩ := hq
    have hllen := hl.len
    have hG3 := hg1.trans (hg2.trans hg3)
    (conv => whnf)
    refine RelP.g (ok1 drRd fun d => d.ws.length ≤ 100000 ∧ d.ks.length ≤ 100000) (x := d) ⟨_, rfl, drRd.grow hG3 hdr, by omega, by omega⟩ (Grow.refl _) (fun v G4 hg4 hq1 => W.mk ?_)
    obtain ⟨_, _, rfl, ⟨_, _, _, rfl, _, _⟩, ⟨_, _, _, rfl, _, _⟩⟩ := id hq1
    (conv => whnf)
    refine RelP.g (ok1 spsRd fun l => l.length ≤ 100000 ∧ FineS l) (x := steps) ⟨_, rfl, spsRd.grow (hG3.trans hg4) hsr, by omega, thin_fine hthin⟩ (Grow.refl _) (fun v G5 hg5 hq2 => W.mk ?_)
    obtain ⟨_, _, _, rfl, _, _⟩ := id hq2
    (conv => whnf)
    refine RelP.g (ok2 drRd spsRd fun _ _ => True) (x := (d, steps)) ⟨_, _, rfl, drRd.grow hg5 hq1, hq2, trivial⟩ (Grow.refl _) (fun v G6 hg6 hq => W.mk ?_)
    unfold tracesR at hq
    dsimp only at hq
    rw [hS] at hq
    obtain ⟨xu, xv, rfl, htr, hlo⟩ := hq
    obtain ⟨ta, tn, tc, rfl, htl, htn⟩ := id htr
    obtain ⟨oa, on, oc, rfl, hol, hon⟩ := id hlo
    have htlen := htl.len
    have hG6 := hG3.trans (hg4.trans (hg5.trans hg6))
    have hl6 := SlR.grow (G := G3) (G' := G6) (fun _ _ h => h) hl (hg4.trans (hg5.trans hg6))
    have hw6 := SlR.grow (G := G) (G' := G6) (fun _ _ h => h) hwl hG6
    rw [shown_n] at hllen
    rw [traces_n] at htlen
    (conv => whnf)
    (refine IteP.mk (fun _ => W.mk ?_) (fun _ => W.mk ?_) <;> first | (exfalso; omega) | (conv => whnf))
    (refine IteP.mk (fun _ => W.mk ?_) (fun _ => W.mk ?_) <;> first | (exfalso; omega) | (conv => whnf))
    (refine IteP.mk (fun _ => W.mk ?_) (fun _ => W.mk ?_) <;> first | (exfalso; omega) | (conv => whnf))
    refine LoopP.of { α := Nat × Int, fr := fun x => [(2, .c (.ptr 0 0)), (5, .v (.slice la ln lc)), (9, .v (.slice ta tn tc)), (12, .v (I x.2)), (13, .v (I x.1))], H := fun _ => [(0, .cells .anon [.val (.slice wa wn wc), .val (.slice ka kn kc)] 25)], ok := fun x _ => x.1 ≤ seenN S ∧ LastOk d S x.1 x.2, m := fun x => seenN S - x.1 }
      (0, 0) (HeadP.of [] ⟨rfl, rfl, rfl, rfl, rfl, trivial⟩ ⟨rfl, trivial⟩) ⟨Nat.zero_le _, last_zero hv hrch⟩ (fun _ => ⟨rfl, rfl⟩) (fun x G7 hg7 hx => W.mk ?_)
    obtain ⟨i, z⟩ := x
    obtain ⟨hi, hz⟩ := hx
    dsimp only at hi hz
    dsimp only
    (conv => whnf)
    refine IteP.mk (fun hlt => W.mk ?_) (fun hge => W.mk ?_) <;> (conv => whnf)
    rotate_left
    · (refine ScaP.g okU (G := fun _ => none) (x := ()) rfl (fun v hv => W.mk ?_); subst hv; (conv => whnf); refine ForkP.mk (fun _ => W.mk ?_) (fun h => by cases h); (conv => whnf); exact FinP.mk rfl)
    have h1 : i < seenN S := by omega
    have h1t : i < (tracesF d S).length := by rw [traces_n]; exact h1
    have h1s : i < (shownF S).length := by rw [shown_n]; exact h1
    obtain ⟨_, _, _, e, htl7, _⟩ := trsRd.grow hg7 htr
    cases e
    obtain ⟨cs, c1, c2, sa, sb, rfl, hsa, hsb⟩ := htl7.at_ i h1t
    have hcv := (SlR.grow (G := G6) (G' := G7) (fun _ _ h => h) hl6 hg7).el h1s
    have hok := trace_ok hv hrch h1t
    have hls := last_step hv hrch hz h1t h1s
    generalize (tracesF d S)[i] = t at c2 hsa hsb hok hls
    generalize (shownF S)[i] = y at hcv hls
    obtain ⟨saa, san, sac, rfl, hsl, hsn1⟩ := id hsa
    obtain ⟨sba, sbn, sbc, rfl, hbl, hbn1⟩ := id hsb
    have hsln := hsl.len
    have hbln := hbl.len
    have htsl := hok.len
    repeat' (first | (refine ob ?_ ?_; (first | trivial | omega | (simp only [inR]; omega) | exact ble (by rfl) | exact SlR.some ‹_› (by omega)); (conv => whnf)) | (first | (refine ra ‹_› (by rfl) ?_; (conv => whnf)) | (refine rb ‹_› (by rfl) ?_; (conv => whnf)) | (refine rc ‹_› (by rfl) ?_; (conv => whnf)) | (refine rd ‹_› (by rfl) ?_; (conv => whnf))))
    refine IteP.mk (fun h0 => W.mk ?_) (fun h0 => W.mk ?_) <;> (conv => whnf)
    · obtain ⟨f1, f2, f3⟩ := hok.non (by omega)
      repeat' (first | (refine ob ?_ ?_; (first | trivial | omega | (simp only [inR]; omega) | exact ble (by rfl) | exact SlR.some ‹_› (by omega)); (conv => whnf)) | (first | (refine ra ‹_› (by rfl) ?_; (conv => whnf)) | (refine rb ‹_› (by rfl) ?_; (conv => whnf)) | (refine rc ‹_› (by rfl) ?_; (conv => whnf)) | (refine rd ‹_› (by rfl) ?_; (conv => whnf))) | (refine IteP.mk (fun _ => W.mk ?_) (fun _ => W.mk ?_) <;> first | (exfalso; omega) | (conv => whnf)))
      exact RoundP.of (i + 1, z) (HeadP.of [] ⟨rfl, rfl, rfl, rfl, rfl, trivial⟩ ⟨rfl, trivial⟩) ⟨h1, last_skip hz⟩ (by show seenN S - (i + 1) < seenN S - i; omega)
    refine LoopP.of { α := Nat, fr := fun x => [(2, .c (.ptr 0 0)), (5, .v (.slice la ln lc)), (9, .v (.slice ta tn tc)), (12, .v (I z)), (13, .v (I i)), (14, .v (I san)), (15, .v (I x))], H := fun _ => [(0, .cells .anon [.val (.slice wa wn wc), .val (.slice ka kn kc)] 25)], ok := fun x _ => x ≤ t.src.length, m := fun x => t.src.length - x }
      0 (HeadP.of [] ⟨rfl, rfl, rfl, rfl, rfl, rfl, rfl, trivial⟩ ⟨rfl, trivial⟩) (Nat.zero_le _) (fun _ => ⟨rfl, rfl⟩) (fun (k : Nat) G8 hg8 (hk : k ≤ _) => W.mk ?_)
    have c28 := CellsAt.grow hg8 c2
    have hcv8 := CellsAt.grow hg8 hcv
    have hsl8 := SlR.grow (G := G7) (G' := G8) (fun _ _ h => h) hsl hg8
    have hw8 := SlR.grow (G := G6) (G' := G8) (fun _ _ h => h) hw6 (hg7.trans hg8)
    dsimp only
    (conv => whnf)
    refine IteP.mk (fun hk1 => W.mk ?_) (fun hk1 => W.mk ?_) <;> (conv => whnf)
    · have hk2 : k < t.src.length := by omega
      have hcs := hsl8.el hk2
      obtain ⟨s0, s1⟩ := hok.rng _ (List.getElem_mem hk2)
      have hhas := hok.has _ (List.getElem_mem hk2)
      generalize t.src[k] = s at hcs s0 s1 hhas
      have hcw := hw8.el (i := s.toNat) (by omega)
      rw [word_at (by omega)] at hhas
      generalize d.ws[s.toNat]'(by omega) = wo at hcw hhas
      repeat' (first | (refine ob ?_ ?_; (first | trivial | omega | (simp only [inR]; omega) | exact ble (by rfl) | exact SlR.some ‹_› (by omega)); (conv => whnf)) | (first | (refine ra ‹_› (by rfl) ?_; (conv => whnf)) | (refine rb ‹_› (by rfl) ?_; (conv => whnf)) | (refine rc ‹_› (by rfl) ?_; (conv => whnf)) | (refine rd ‹_› (by rfl) ?_; (conv => whnf))))
      repeat' (first | (refine ob ?_ ?_; (first | trivial | omega | (simp only [inR]; omega) | exact ble (by rfl) | exact SlR.some ‹_› (by omega)); (conv => whnf)) | (first | (refine ra ‹_› (by rfl) ?_; (conv => whnf)) | (refine rb ‹_› (by rfl) ?_; (conv => whnf)) | (refine rc ‹_› (by rfl) ?_; (conv => whnf)) | (refine rd ‹_› (by rfl) ?_; (conv => whnf))))
      refine OblP.mk ⟨_, _, _, rfl⟩ (W.mk ?_)
      (conv => whnf)
      refine ForkP.mk (fun hin => W.mk ?_) (fun hin => W.mk ?_) <;> (conv => whnf)
      · repeat' (first | (refine ob ?_ ?_; (first | trivial | omega | (simp only [inR]; omega) | exact ble (by rfl) | exact SlR.some ‹_› (by omega)); (conv => whnf)) | (first | (refine ra ‹_› (by rfl) ?_; (conv => whnf)) | (refine rb ‹_› (by rfl) ?_; (conv => whnf)) | (refine rc ‹_› (by rfl) ?_; (conv => whnf)) | (refine rd ‹_› (by rfl) ?_; (conv => whnf))))
        refine ScaP.g (ok2 (slRd intE) intRd fun _ _ => True) (x := (t.rep, wo.r)) ⟨_, _, rfl, SlV.grow hg8 hsb, rfl, trivial⟩ (fun v hv2 => W.mk ?_)
        have hv2 : v = .bool true := hv2.trans (congrArg Value.bool (decide_eq_true hhas))
        subst hv2
        (conv => whnf)
        refine ForkP.mk (fun _ => W.mk ?_) (fun h => by cases h)
        (conv => whnf)
        repeat' (refine ob ?_ ?_; (first | trivial | omega | (simp only [inR]; omega) | exact ble (by rfl) | exact SlR.some ‹_› (by omega)); (conv => whnf))
        exact RoundP.of (k + 1) (HeadP.of [] ⟨rfl, rfl, rfl, rfl, rfl, rfl, rfl, trivial⟩ ⟨rfl, trivial⟩) hk2 (by show t.src.length - (k + 1) < t.src.length - k; omega)
      · exfalso
        rw [inF, decide_eq_false_iff_not] at hin
        omega
    have hk0 : 0 < t.src.length := by omega
    have hcs := hsl8.el hk0
    have hcl := hsl8.el (i := t.src.length - 1) (by omega)
    obtain ⟨s0, s1⟩ := hok.rng _ (List.getElem_mem hk0)
    obtain ⟨r0, r1⟩ := hok.rng _ (List.getElem_mem (l := t.src) (n := t.src.length - 1) (by omega))
    have hf := hok.first hk0
    have hl := hok.last hk0
    have hfl := hok.le hk0
    have hrp := hok.rep
    generalize t.src[0] = s at hcs s0 s1 hf
    generalize t.src[t.src.length - 1]'(by omega) = r at hcl r0 r1 hl
    rw [show t.src.length - 1 = ((san : Int) - 1).toNat by omega] at hcl
    have hcw := hw8.el (i := s.toNat) (by omega)
    have hcx := hw8.el (i := r.toNat) (by omega)
    rw [word_at (by omega)] at hf hl
    generalize d.ws[s.toNat]'(by omega) = wo at hcw hf
    generalize d.ws[r.toNat]'(by omega) = wp at hcx hl
    repeat' (first | (refine ob ?_ ?_; (first | trivial | omega | (simp only [inR]; omega) | exact ble (by rfl) | exact SlR.some ‹_› (by omega)); (conv => whnf)) | (first | (refine ra ‹_› (by rfl) ?_; (conv => whnf)) | (refine rb ‹_› (by rfl) ?_; (conv => whnf)) | (refine rc ‹_› (by rfl) ?_; (conv => whnf)) | (refine rd ‹_› (by rfl) ?_; (conv => whnf))))
    (refine IteP.mk (fun _ => W.mk ?_) (fun _ => W.mk ?_) <;> first | (exfalso; omega) | (conv => whnf))
    repeat' (first | (refine ob ?_ ?_; (first | trivial | omega | (simp only [inR]; omega) | exact ble (by rfl) | exact SlR.some ‹_› (by omega)); (conv => whnf)) | (first | (refine ra ‹_› (by rfl) ?_; (conv => whnf)) | (refine rb ‹_› (by rfl) ?_; (conv => whnf)) | (refine rc ‹_› (by rfl) ?_; (conv => whnf)) | (refine rd ‹_› (by rfl) ?_; (conv => whnf))))
    (refine IteP.mk (fun _ => W.mk ?_) (fun _ => W.mk ?_) <;> first | (exfalso; omega) | (conv => whnf))
    repeat' (first | (refine ob ?_ ?_; (first | trivial | omega | (simp only [inR]; omega) | exact ble (by rfl) | exact SlR.some ‹_› (by omega)); (conv => whnf)) | (first | (refine ra ‹_› (by rfl) ?_; (conv => whnf)) | (refine rb ‹_› (by rfl) ?_; (conv => whnf)) | (refine rc ‹_› (by rfl) ?_; (conv => whnf)) | (refine rd ‹_› (by rfl) ?_; (conv => whnf))))
    (refine IteP.mk (fun _ => W.mk ?_) (fun _ => W.mk ?_) <;> first | (exfalso; omega) | (conv => whnf))
    repeat' (first | (refine ob ?_ ?_; (first | trivial | omega | (simp only [inR]; omega) | exact ble (by rfl) | exact SlR.some ‹_› (by omega)); (conv => whnf)) | (first | (refine ra ‹_› (by rfl) ?_; (conv => whnf)) | (refine rb ‹_› (by rfl) ?_; (conv => whnf)) | (refine rc ‹_› (by rfl) ?_; (conv => whnf)) | (refine rd ‹_› (by rfl) ?_; (conv => whnf))))
    (refine IteP.mk (fun _ => W.mk ?_) (fun _ => W.mk ?_) <;> first | (exfalso; omega) | (conv => whnf))
    repeat' (first | (refine ob ?_ ?_; (first | trivial | omega | (simp only [inR]; omega) | exact ble (by rfl) | exact SlR.some ‹_› (by omega)); (conv => whnf)) | (first | (refine ra ‹_› (by rfl) ?_; (conv => whnf)) | (refine rb ‹_› (by rfl) ?_; (conv => whnf)) | (refine rc ‹_› (by rfl) ?_; (conv => whnf)) | (refine rd ‹_› (by rfl) ?_; (conv => whnf))))
    refine IteP.mk (fun ho => W.mk ?_) (fun ho => W.mk ?_) <;> (conv => whnf)
    · obtain ⟨q1, q2⟩ := hls ho
      repeat' (first | (refine ob ?_ ?_; (first | trivial | omega | (simp only [inR]; omega) | exact ble (by rfl) | exact SlR.some ‹_› (by omega)); (conv => whnf)) | (first | (refine ra ‹_› (by rfl) ?_; (conv => whnf)) | (refine rb ‹_› (by rfl) ?_; (conv => whnf)) | (refine rc ‹_› (by rfl) ?_; (conv => whnf)) | (refine rd ‹_› (by rfl) ?_; (conv => whnf))) | (refine IteP.mk (fun _ => W.mk ?_) (fun _ => W.mk ?_) <;> first | (exfalso; omega) | (conv => whnf)))
      exact RoundP.of (i + 1, t.f) (HeadP.of [] ⟨rfl, rfl, rfl, rfl, rfl, trivial⟩ ⟨rfl, trivial⟩) ⟨h1, q1⟩ (by show seenN S - (i + 1) < seenN S - i; omega)
    · repeat' (first | (refine ob ?_ ?_; (first | trivial | omega | (simp only [inR]; omega) | exact ble (by rfl) | exact SlR.some ‹_› (by omega)); (conv => whnf)) | (first | (refine ra ‹_› (by rfl) ?_; (conv => whnf)) | (refine rb ‹_› (by rfl) ?_; (conv => whnf)) | (refine rc ‹_› (by rfl) ?_; (conv => whnf)) | (refine rd ‹_› (by rfl) ?_; (conv => whnf))))
      exact RoundP.of (i + 1, z) (HeadP.of [] ⟨rfl, rfl, rfl, rfl, rfl, trivial⟩ ⟨rfl, trivial⟩) ⟨h1, last_skip hz⟩ (by show seenN S - (i + 1) < seenN S - i; omega)
end Go.Proofs.YtfppbjfbghaclaaGreat

namespace Go.Proofs.YtfppbjfbghaclaaGreat
open Go.Pal Go.RowKit
set_option maxRecDepth 100000
def PutAll (S : Sh) : Prop := ∀ y ∈ S.its, y.g ≠ 0 → ∃ z ∈ S.its, z.m = y.g
def BadStep (x : Sp) : Prop := x.u = 0 ∧ 0 < x.c ∧ x.put = []
theorem gone_has (n : Int) (ps : List Nat) (l : List It) {z : It} (hz : z ∈ l) : ∃ z' ∈ goneF l n ps, z'.key = z.key := by
  have h : z.key ∈ (goneF l n ps).map It.key := by rw [goneF_key]; exact List.mem_map_of_mem hz
  obtain ⟨z', h1, h2⟩ := List.mem_map.1 h
  exact ⟨z', h1, h2⟩
theorem insF_old {α : Type} {l : List α} {i : Nat} {v : List α} {z : α} (hz : z ∈ l) : z ∈ insF l i v := by
  rw [← List.take_append_drop i l] at hz
  rcases List.mem_append.1 hz with hz | hz
  · exact List.mem_append_left _ (List.mem_append_left _ hz)
  · exact List.mem_append_right _ hz
theorem put_step {d : Dr} {S S' : Sh} {x : Sp} (hr : Rch d S) (h : PutAll S) (hx : ¬ BadStep x) (hs : stepF d S x = some S') : PutAll S' := by
  unfold stepF at hs
  split at hs
  · rename_i hu
    unfold changeF at hs
    split at hs
    · cases hs
      intro y hy hg
      have yold : y ∈ goneF S.its (S.ch + 1) (cutF S.its x) → ∃ z ∈ insF (goneF S.its (S.ch + 1) (cutF S.its x)) (placeF S.its x) (putF (S.ch + 1) x.put), z.m = y.g := fun hm => by
        obtain ⟨w, hw, _, h2⟩ := goneF_of _ _ _ y hm
        rcases h2 with h2 | h2
        · obtain ⟨z, hz, h3⟩ := h w hw (by rw [← h2]; exact hg)
          obtain ⟨z', h4, h5⟩ := gone_has (S.ch + 1) (cutF S.its x) S.its hz
          exact ⟨z', insF_old h4, by rw [key_m h5, h3, h2]⟩
        · by_cases hcut : cutF S.its x = []
          · rw [hcut] at hm
            have hm : y ∈ S.its := hm
            have := (hr.wf y hm).2.2.2
            omega
          · have hc0 : 0 < x.c := by
              apply Classical.byContradiction
              intro hc
              apply hcut
              rw [cutF, show x.c.toNat = 0 by omega, List.take_zero]
            have hput : x.put ≠ [] := fun e => hx ⟨hu, hc0, e⟩
            obtain ⟨t, r, e⟩ := List.exists_cons_of_ne_nil hput
            refine ⟨⟨t, -1, S.ch + 1, 0⟩, List.mem_append_left _ (List.mem_append_right _ ?_), h2.symm⟩
            rw [putF, e]
            exact List.mem_cons_self ..
      have hy : y ∈ insF (goneF S.its (S.ch + 1) (cutF S.its x)) (placeF S.its x) (putF (S.ch + 1) x.put) := hy
      rcases List.mem_append.1 hy with hy | hy
      · rcases List.mem_append.1 hy with hy | hy
        · exact yold (List.mem_of_mem_take hy)
        · obtain ⟨t, _, rfl⟩ := List.mem_map.1 hy
          exact absurd rfl hg
      · exact yold (List.mem_of_mem_drop hy)
    · cases hs
  · unfold undoF at hs
    split at hs
    · cases hs
      intro y hy hg
      obtain ⟨w, hw, rfl⟩ := List.mem_map.1 hy
      obtain ⟨hw1, _⟩ := List.mem_filter.1 hw
      have hwg : w.g ≠ x.u ∧ (backF x.u w).g = w.g := by
        unfold backF at hg ⊢
        split at hg
        · exact absurd rfl hg
        · rename_i e; rw [if_neg e]; exact ⟨e, rfl⟩
      rw [hwg.2] at hg ⊢
      obtain ⟨z, hz, hzm⟩ := h w hw1 hg
      exact ⟨backF x.u z, List.mem_map_of_mem (List.mem_filter.2 ⟨hz, by rw [hzm]; simpa using hwg.1⟩), by rw [backF_m, hzm]⟩
    · cases hs
theorem put_play {d : Dr} : ∀ {steps : List Sp} {S S' : Sh} {i : Nat}, Rch d S → PutAll S → (∀ x ∈ steps, ¬ BadStep x) → playF d S steps i = .inr S' → PutAll S'
  | [], S, S', i, _, h, _, e => by cases e; exact h
  | x :: r, S, S', i, hr, h, hx, e => by
    simp only [playF] at e
    split at e
    · rename_i S1 hs
      exact put_play (rch_step hr hs) (put_step hr h (hx x (by simp)) hs) (fun z hz => hx z (by simp [hz])) e
    · cases e
theorem up {d : Dr} {S : Sh} (hr : Rch d S) (hp : PutAll S) : ∀ (f : Nat) (y : It), y ∈ S.its → (S.ch - y.g).toNat ≤ f → ∀ k ∈ ofF S.its y, ∃ z ∈ S.its, z.g = 0 ∧ k ∈ ofF S.its z := fun f => by
  induction f with
  | zero =>
    intro y hy hf k hk
    by_cases hg : y.g = 0
    · exact ⟨y, hy, hg, hk⟩
    · obtain ⟨z, hz, hzm⟩ := hp y hy hg
      obtain ⟨y1, y2, y3, y4⟩ := hr.wf y hy
      obtain ⟨z1, z2, z3, z4⟩ := hr.wf z hz
      have hm1 : 1 ≤ z.m := by rcases y1 with y1 | y1 <;> omega
      have hzo : ¬ 0 ≤ z.o := fun h => by rcases z1 with z1 | z1 <;> omega
      refine ⟨z, hz, by omega, ?_⟩
      rw [ofF, if_neg hzo, grpF_eq (Inv.wf hr.wf) hm1, sortF_mem]
      exact List.mem_flatMap.2 ⟨y, List.mem_filter.2 ⟨hy, decide_eq_true hzm.symm⟩, hk⟩
  | succ f ih =>
    intro y hy hf k hk
    by_cases hg : y.g = 0
    · exact ⟨y, hy, hg, hk⟩
    · obtain ⟨z, hz, hzm⟩ := hp y hy hg
      obtain ⟨y1, y2, y3, y4⟩ := hr.wf y hy
      obtain ⟨z1, z2, z3, z4⟩ := hr.wf z hz
      have hm1 : 1 ≤ z.m := by rcases y1 with y1 | y1 <;> omega
      have hzo : ¬ 0 ≤ z.o := fun h => by rcases z1 with z1 | z1 <;> omega
      have hk2 : k ∈ ofF S.its z := by
        rw [ofF, if_neg hzo, grpF_eq (Inv.wf hr.wf) hm1, sortF_mem]
        exact List.mem_flatMap.2 ⟨y, List.mem_filter.2 ⟨hy, decide_eq_true hzm.symm⟩, hk⟩
      by_cases hz0 : z.g = 0
      · exact ⟨z, hz, hz0, hk2⟩
      · exact ih z hz (by omega) k hk2
theorem orig_mem {d : Dr} {S : Sh} (hr : Rch d S) {k : Nat} (hk : k < d.ws.length) : ∃ y ∈ S.its, y.o = k := by
  have h : ((d.ws.getD k default).t, (k : Int), (0 : Int)) ∈ baseF S.its := by rw [hr.base]; exact List.mem_map.2 ⟨k, List.mem_range.2 hk, rfl⟩
  obtain ⟨y, hy, e⟩ := List.mem_map.1 (List.mem_filter.1 h).1
  exact ⟨y, hy, congrArg (fun q => q.2.1) e⟩
theorem srcs_mem {S : Sh} {z : It} (hz : z ∈ S.its) (hg : z.g = 0) {k : Int} (hk : k ∈ ofF S.its z) : k ∈ srcsN S (placesF S.its).length := by
  obtain ⟨i, hi, rfl⟩ := List.mem_iff_getElem.1 hz
  have hgd : S.its.getD i default = S.its[i] := by rw [List.getD_eq_getElem?_getD, List.getElem?_eq_getElem hi]; rfl
  rw [srcsN, List.take_length]
  exact List.mem_flatMap.2 ⟨i, List.mem_filter.2 ⟨List.mem_range.2 hi, decide_eq_true (by rw [hgd]; exact hg)⟩, by rw [hgd]; exact hk⟩
theorem lost_none {d : Dr} {steps : List Sp} {S : Sh} (h : endF d steps = .ok S) (hx : ∀ x ∈ steps, ¬ BadStep x) : lostF d S = [] := by
  have hr := rch_end h
  have hp : PutAll S := put_play (rch_begin d) (fun y hy hg => by obtain ⟨i, _, rfl⟩ := List.mem_map.1 hy; exact absurd rfl hg) hx (endF_ok h).2.2
  rw [lostF, lostN, List.map_eq_nil_iff, List.filter_eq_nil_iff]
  intro k hk
  have hk := List.mem_range.1 hk
  obtain ⟨y, hy, ho⟩ := orig_mem hr hk
  have hm : (k : Int) ∈ ofF S.its y := by rw [ofF, if_pos (by omega), ho]; simp
  obtain ⟨z, hz, hg, hkz⟩ := up hr hp _ y hy (Nat.le_refl _) _ hm
  simp [srcs_mem hz hg hkz]
def Mk (n : Nat) (q L : List Int) : Prop := q.length = n ∧ ∀ k (h : k < q.length), q[k] = 0 ↔ (k : Int) ∉ L
theorem mk_none (n : Nat) : Mk n (List.replicate n 0) [] := ⟨by simp, fun k h => by simp⟩
theorem mk_set {n : Nat} {q L : List Int} (h : Mk n q L) {s v : Int} (h0 : 0 ≤ s) (hv : v ≠ 0) : Mk n (q.set s.toNat v) (L ++ [s]) := by
  refine ⟨by rw [List.length_set]; exact h.1, fun k hk => ?_⟩
  have hk2 : k < q.length := by rwa [List.length_set] at hk
  rw [List.getElem_set, List.mem_append, List.mem_singleton]
  split
  · rename_i e
    exact ⟨fun h => absurd h hv, fun h => absurd (.inr (by omega)) h⟩
  · rename_i e
    rw [h.2 k hk2]
    exact ⟨fun h1 h2 => h2.elim h1 fun h3 => by omega, fun h1 h2 => h1 (.inl h2)⟩
theorem srcs_succ {S : Sh} {i : Nat} (h : i < seenN S) : srcsN S (i + 1) = srcsN S i ++ ofF S.its (seenAt S i) := by
  have h' : i < (placesF S.its).length := h
  have e : (placesF S.its).getD i 0 = (placesF S.its)[i] := by rw [List.getD_eq_getElem?_getD, List.getElem?_eq_getElem h']; rfl
  rw [srcsN, srcsN, List.take_add_one, List.getElem?_eq_getElem h', List.flatMap_append, seenAt, e]
  simp
theorem lost_mem {d : Dr} {S : Sh} {x : Int} (h : x ∈ lostF d S) : 0 ≤ x ∧ x < d.ws.length ∧ x ∉ srcsN S (seenN S) := by
  obtain ⟨k, hk, rfl⟩ := List.mem_map.1 h
  obtain ⟨h1, h2⟩ := List.mem_filter.1 hk
  have h1 := List.mem_range.1 h1
  refine ⟨by omega, by omega, ?_⟩
  simpa [seenN] using h2
theorem lost_lt (d : Dr) (S : Sh) : (lostF d S).Pairwise (· < ·) := by
  rw [lostF, lostN, List.pairwise_map]
  exact ((pair_range _).filter _).imp fun h => by omega
theorem lost_fresh {d : Dr} {S : Sh} {j : Nat} (h : j < (lostF d S).length) : (lostF d S)[j] ∉ srcsN S (seenN S) ++ (lostF d S).take j := fun hm => by
  rcases List.mem_append.1 hm with hm | hm
  · exact (lost_mem (List.getElem_mem h)).2.2 hm
  · obtain ⟨i, hi, e⟩ := List.mem_iff_getElem.1 hm
    rw [List.getElem_take] at e
    have hij : i < j := by rw [List.length_take] at hi; omega
    have := List.pairwise_iff_getElem.1 (lost_lt d S) i j (by omega) h hij
    omega
theorem all_seen {d : Dr} {S : Sh} {k : Nat} (h : k < d.ws.length) : (k : Int) ∈ srcsN S (seenN S) ++ lostF d S := by
  by_cases hm : (k : Int) ∈ srcsN S (seenN S)
  · exact List.mem_append_left _ hm
  · refine List.mem_append_right _ (List.mem_map.2 ⟨k, List.mem_filter.2 ⟨List.mem_range.2 h, ?_⟩, rfl⟩)
    simpa [seenN] using hm
theorem src_orig {d : Dr} {S : Sh} {i : Nat} (h : i < (tracesF d S).length) (h2 : i < (shownF S).length) (h0 : 0 ≤ (shownF S)[i].o) : (tracesF d S)[i].src = [(shownF S)[i].o] := by
  rw [shown_at S h2] at h0 ⊢
  have h0 : 0 ≤ (seenAt S i).o := h0
  rw [traces_at d S h]
  show ofF S.its (seenAt S i) = [(seenAt S i).o]
  rw [ofF, if_pos h0]
theorem src_at {d : Dr} {S : Sh} {i : Nat} (h : i < (tracesF d S).length) : srcsN S (i + 1) = srcsN S i ++ (tracesF d S)[i].src := by
  rw [traces_at d S h]
  exact srcs_succ (by rw [traces_n] at h; exact h)
end Go.Proofs.YtfppbjfbghaclaaGreat

namespace Go.Proofs.YtfppbjfbghaclaaGreat
open Go.Pal Go.RowKit
set_option maxRecDepth 100000
theorem row_zero (n : Nat) : Row intE (List.replicate n 0) n (List.replicate n [I 0]).flatten := ⟨by simp, by rw [List.map_replicate]; rfl⟩
set_option maxHeartbeats 16000000 in
theorem law4 : Sound Tryz.prog 4 id (gsca (args2 duRd suRd fun _ _ => True) fun _ v => v = .bool true) := by
  refine comp4.gsca (lawT (Tab.cons 16 _ traces16 body16 (Tab.cons 27 _ in27 body27 (Tab.nil _)))) (fun args G s h => ?_) (fun args G x h => ?_)
  · obtain ⟨u, v, rfl, _⟩ := h; simp
  · obtain ⟨d, steps⟩ := x
    obtain ⟨_, _, rfl, hdu, hsu, _⟩ := h
    dsimp only at hdu hsu
    obtain ⟨w, k, rfl, hw, hk⟩ := id hdu
    obtain ⟨wa, wn, wc, rfl, hwl, _⟩ := id hw
    obtain ⟨ka, kn, kc, rfl, hkl, _⟩ := id hk
    obtain ⟨a, n, c, rfl, hst, hn⟩ := id hsu
    have hlen := hst.len
    have hwlen := hwl.len
    (conv => whnf)
    refine IteP.mk (fun h14 => W.mk ?_) (fun h14 => W.mk ?_) <;> (conv => whnf)
    · (refine ScaP.g okU (G := fun _ => none) (x := ()) rfl (fun v hv => W.mk ?_); subst hv; (conv => whnf); refine ForkP.mk (fun _ => W.mk ?_) (fun h => by cases h); (conv => whnf); exact FinP.mk rfl)
    refine ScaP.g (ok2 duRd suRd fun _ _ => True) (x := (d, steps)) ⟨_, _, rfl, hdu, hsu, trivial⟩ (fun v hv => W.mk ?_)
    subst hv
    dsimp only
    (conv => whnf)
    refine ForkP.mk (fun ht => W.mk ?_) (fun ht => W.mk ?_) <;> (conv => whnf)
    rotate_left
    · (refine ScaP.g okU (G := fun _ => none) (x := ()) rfl (fun v hv => W.mk ?_); subst hv; (conv => whnf); refine ForkP.mk (fun _ => W.mk ?_) (fun h => by cases h); (conv => whnf); exact FinP.mk rfl)
    obtain ⟨hthin, S, hS⟩ := ready_iff.1 ht
    obtain ⟨t1, t2, t3, t4, t5⟩ := thin_iff.1 hthin
    have hdr := thin_dr hthin hdu
    have hsr := thin_sps hthin hsu
    obtain ⟨hv, h80, hpl⟩ := endF_ok hS
    have hrch := rch_end hS
    have hsn := seen_n hS
    refine RelP.g (ok1 drRd fun d => d.ws.length ≤ 100000 ∧ d.ks.length ≤ 100000) (x := d) ⟨_, rfl, hdr, by omega, by omega⟩ (Grow.refl _) (fun v G1 hg1 hq1 => W.mk ?_)
    obtain ⟨_, _, rfl, ⟨_, _, _, rfl, _, _⟩, ⟨_, _, _, rfl, _, _⟩⟩ := id hq1
    (conv => whnf)
    refine RelP.g (ok1 spsRd fun l => l.length ≤ 100000 ∧ FineS l) (x := steps) ⟨_, rfl, spsRd.grow hg1 hsr, by omega, thin_fine hthin⟩ (Grow.refl _) (fun v G2 hg2 hq2 => W.mk ?_)
    obtain ⟨_, _, _, rfl, _, _⟩ := id hq2
    (conv => whnf)
    refine RelP.g (ok2 drRd spsRd fun _ _ => True) (x := (d, steps)) ⟨_, _, rfl, drRd.grow hg2 hq1, hq2, trivial⟩ (Grow.refl _) (fun v G3 hg3 hq => W.mk ?_)
    unfold showR at hq
    dsimp only at hq
    rw [hS] at hq
    obtain ⟨xa, xb, rfl, ⟨la, ln, lc, rfl, hl, hln⟩, ⟨va, vn, vc, rfl, _, _⟩⟩ := hq
    have hllen := hl.len
    have hG3 := hg1.trans (hg2.trans hg3)
    (conv => whnf)
    refine RelP.g (ok1 drRd fun d => d.ws.length ≤ 100000 ∧ d.ks.length ≤ 100000) (x := d) ⟨_, rfl, drRd.grow hG3 hdr, by omega, by omega⟩ (Grow.refl _) (fun v G4 hg4 hq1 => W.mk ?_)
    obtain ⟨_, _, rfl, ⟨_, _, _, rfl, _, _⟩, ⟨_, _, _, rfl, _, _⟩⟩ := id hq1
    (conv => whnf)
    refine RelP.g (ok1 spsRd fun l => l.length ≤ 100000 ∧ FineS l) (x := steps) ⟨_, rfl, spsRd.grow (hG3.trans hg4) hsr, by omega, thin_fine hthin⟩ (Grow.refl _) (fun v G5 hg5 hq2 => W.mk ?_)
    obtain ⟨_, _, _, rfl, _, _⟩ := id hq2
    (conv => whnf)
    refine RelP.g (ok2 drRd spsRd fun _ _ => True) (x := (d, steps)) ⟨_, _, rfl, drRd.grow hg5 hq1, hq2, trivial⟩ (Grow.refl _) (fun v G6 hg6 hq => W.mk ?_)
    unfold tracesR at hq
    dsimp only at hq
    rw [hS] at hq
    obtain ⟨xu, xv, rfl, htr, hlo⟩ := hq
    obtain ⟨ta, tn, tc, rfl, htl, htn⟩ := id htr
    obtain ⟨oa, on, oc, rfl, hol, hon⟩ := id hlo
    have htlen := htl.len
    have hG6 := hG3.trans (hg4.trans (hg5.trans hg6))
    have hl6 := SlR.grow (G := G3) (G' := G6) (fun _ _ h => h) hl (hg4.trans (hg5.trans hg6))
    have hw6 := SlR.grow (G := G) (G' := G6) (fun _ _ h => h) hwl hG6
    rw [shown_n] at hllen
    rw [traces_n] at htlen
    (conv => whnf)
    (refine IteP.mk (fun _ => W.mk ?_) (fun _ => W.mk ?_) <;> first | (exfalso; omega) | (conv => whnf))
    (refine IteP.mk (fun _ => W.mk ?_) (fun _ => W.mk ?_) <;> first | (exfalso; omega) | (conv => whnf))
    (refine IteP.mk (fun _ => W.mk ?_) (fun _ => W.mk ?_) <;> first | (exfalso; omega) | (conv => whnf))
    have hwl60 := (endF_inv hS).2
    refine OblP.mk ⟨by omega, by omega⟩ (W.mk ?_)
    (conv => whnf)
    refine LoopP.of { α := Nat × List Int × List Value, fr := fun x => [(1, .v (.slice a n c)), (2, .c (.ptr 0 0)), (5, .v (.slice la ln lc)), (9, .v (.slice ta tn tc)), (10, .v (.slice oa on oc)), (12, .c (.row 56 wn)), (13, .v (I x.1))], H := fun x => [(0, .cells .anon [.val (.slice wa wn wc), .val (.slice ka kn kc)] 25), (56, .row none wn x.2.2 3 1)], ok := fun x _ => x.1 ≤ seenN S ∧ Row intE x.2.1 wn x.2.2 ∧ Mk wn x.2.1 (srcsN S x.1), m := fun x => seenN S - x.1 }
      (0, List.replicate wn 0, (List.replicate wn [I 0]).flatten) (HeadP.of [] ⟨rfl, rfl, rfl, rfl, rfl, rfl, rfl, trivial⟩ ⟨rfl, rfl, trivial⟩) ⟨Nat.zero_le _, row_zero wn, mk_none wn⟩ (fun _ => ⟨rfl, rfl⟩) (fun x G7 hg7 hx => W.mk ?_)
    obtain ⟨i, q, vs⟩ := x
    obtain ⟨hi, hrow, hmk⟩ := hx
    dsimp only at hi hrow hmk
    dsimp only
    (conv => whnf)
    refine IteP.mk (fun hlt => W.mk ?_) (fun hge => W.mk ?_) <;> (conv => whnf)
    · have h1 : i < seenN S := by omega
      have h1t : i < (tracesF d S).length := by rw [traces_n]; exact h1
      have h1s : i < (shownF S).length := by rw [shown_n]; exact h1
      obtain ⟨_, _, _, e, htl7, _⟩ := trsRd.grow hg7 htr
      cases e
      obtain ⟨cs, c1, c2, sa, sb, rfl, hsa, hsb⟩ := htl7.at_ i h1t
      have hcv := (SlR.grow (G := G6) (G' := G7) (fun _ _ h => h) hl6 hg7).el h1s
      have hok := trace_ok hv hrch h1t
      have hso := src_orig h1t h1s
      have hsc := src_at h1t
      generalize (tracesF d S)[i] = t at c2 hsa hsb hok hso hsc
      generalize (shownF S)[i] = y at hcv hso
      obtain ⟨saa, san, sac, rfl, hsl, hsn1⟩ := id hsa
      obtain ⟨sba, sbn, sbc, rfl, _, _⟩ := id hsb
      have hsln := hsl.len
      have htsl := hok.len
      repeat' (first | (refine ob ?_ ?_; (first | trivial | omega | (simp only [inR]; omega) | exact ble (by rfl) | exact SlR.some ‹_› (by omega)); (conv => whnf)) | (first | (refine ra ‹_› (by rfl) ?_; (conv => whnf)) | (refine rb ‹_› (by rfl) ?_; (conv => whnf)) | (refine rc ‹_› (by rfl) ?_; (conv => whnf)) | (refine rd ‹_› (by rfl) ?_; (conv => whnf))))
      refine IteP.mk (fun ho => W.mk ?_) (fun ho => W.mk ?_) <;> (conv => whnf)
      focus
        have hso := hso ho
        have hk0 : 0 < t.src.length := by rw [hso]; exact Nat.one_pos
        have hlen1 : t.src.length = 1 := by rw [hso]; rfl
        have hcs := hsl.el hk0
        have hs0 : t.src[0] = y.o := by simp only [hso, List.getElem_cons_zero]
        generalize t.src[0] = s at hcs hs0
        repeat' (first | (refine ob ?_ ?_; (first | trivial | omega | (simp only [inR]; omega) | exact ble (by rfl) | exact SlR.some ‹_› (by omega)); (conv => whnf)) | (first | (refine ra ‹_› (by rfl) ?_; (conv => whnf)) | (refine rb ‹_› (by rfl) ?_; (conv => whnf)) | (refine rc ‹_› (by rfl) ?_; (conv => whnf)) | (refine rd ‹_› (by rfl) ?_; (conv => whnf))) | (refine IteP.mk (fun _ => W.mk ?_) (fun _ => W.mk ?_) <;> first | (exfalso; omega) | (conv => whnf)))
      all_goals
        refine LoopP.of { α := Nat × List Int × List Value, fr := fun x => [(1, .v (.slice a n c)), (2, .c (.ptr 0 0)), (5, .v (.slice la ln lc)), (9, .v (.slice ta tn tc)), (10, .v (.slice oa on oc)), (12, .c (.row 56 wn)), (13, .v (I i)), (14, .v (I x.1))], H := fun x => [(0, .cells .anon [.val (.slice wa wn wc), .val (.slice ka kn kc)] 25), (56, .row none wn x.2.2 3 1)], ok := fun x _ => x.1 ≤ t.src.length ∧ Row intE x.2.1 wn x.2.2 ∧ Mk wn x.2.1 (srcsN S i ++ t.src.take x.1), m := fun x => t.src.length - x.1 }
          (0, q, vs) (HeadP.of [] ⟨rfl, rfl, rfl, rfl, rfl, rfl, rfl, rfl, trivial⟩ ⟨rfl, rfl, trivial⟩) ⟨Nat.zero_le _, hrow, by show Mk wn q (srcsN S i ++ []); rw [List.append_nil]; exact hmk⟩ (fun _ => ⟨rfl, rfl⟩) (fun x G8 hg8 hx => W.mk ?_)
        obtain ⟨k, p, ws⟩ := x
        obtain ⟨hk, hrow2, hmk2⟩ := hx
        dsimp only at hk hrow2 hmk2
        have c28 := CellsAt.grow hg8 c2
        have hsl8 := SlR.grow (G := G7) (G' := G8) (fun _ _ h => h) hsl hg8
        dsimp only
        (conv => whnf)
        repeat' (first | (refine ob ?_ ?_; (first | trivial | omega | (simp only [inR]; omega) | exact ble (by rfl) | exact SlR.some ‹_› (by omega)); (conv => whnf)) | (first | (refine ra ‹_› (by rfl) ?_; (conv => whnf)) | (refine rb ‹_› (by rfl) ?_; (conv => whnf)) | (refine rc ‹_› (by rfl) ?_; (conv => whnf)) | (refine rd ‹_› (by rfl) ?_; (conv => whnf))))
        refine IteP.mk (fun hk1 => W.mk ?_) (fun hk1 => W.mk ?_) <;> (conv => whnf)
        · have hk2 : k < t.src.length := by omega
          have hcs := hsl8.el hk2
          obtain ⟨s0, s1⟩ := hok.rng _ (List.getElem_mem hk2)
          have hpre : 0 < k → ∃ z, z < t.src[k] ∧ CellsAt G8 (ab saa) (ao saa + ((k : Int) - 1).toNat * 1) [I z] := fun h0 => by
            have h2 : k - 1 < t.src.length := by omega
            rw [show ((k : Int) - 1).toNat = k - 1 by omega]
            exact ⟨t.src[k - 1], List.pairwise_iff_getElem.1 hok.inc _ _ h2 hk2 (by omega), hsl8.el h2⟩
          have htk : t.src.take (k + 1) = t.src.take k ++ [t.src[k]] := by rw [List.take_add_one, List.getElem?_eq_getElem hk2]; rfl
          generalize t.src[k] = s at hcs s0 s1 hpre htk
          repeat' (first | (refine ob ?_ ?_; (first | trivial | omega | (simp only [inR]; omega) | exact ble (by rfl) | exact SlR.some ‹_› (by omega)); (conv => whnf)) | (first | (refine ra ‹_› (by rfl) ?_; (conv => whnf)) | (refine rb ‹_› (by rfl) ?_; (conv => whnf)) | (refine rc ‹_› (by rfl) ?_; (conv => whnf)) | (refine rd ‹_› (by rfl) ?_; (conv => whnf))))
          refine OblP.mk ⟨_, _, _, rfl⟩ (W.mk ?_)
          (conv => whnf)
          refine ForkP.mk (fun hin => W.mk ?_) (fun hin => W.mk ?_) <;> (conv => whnf)
          rotate_left
          · exfalso
            rw [inF, decide_eq_false_iff_not] at hin
            omega
          have hwsl : ws.length = wn := by rw [hrow2.len]; exact Nat.mul_one _
          have hpl : p.length = wn := hmk2.1
          have hset := Row.setAt hrow2 (i := s.toNat) (us := [I 1]) (d := 0) (m := 1) (x := 1) (by omega) (by decide) rfl
          have hmk3 := mk_set hmk2 s0 (v := 1) (by decide)
          rw [List.append_assoc, ← htk] at hmk3
          refine IteP.mk (fun h0 => W.mk ?_) (fun h0 => W.mk ?_) <;> (conv => whnf)
          focus
            obtain ⟨z, hz, hcz⟩ := hpre (by omega)
            repeat' (first | (refine ob ?_ ?_; (first | trivial | omega | (simp only [inR]; omega) | exact ble (by rfl) | exact SlR.some ‹_› (by omega)); (conv => whnf)) | (first | (refine ra ‹_› (by rfl) ?_; (conv => whnf)) | (refine rb ‹_› (by rfl) ?_; (conv => whnf)) | (refine rc ‹_› (by rfl) ?_; (conv => whnf)) | (refine rd ‹_› (by rfl) ?_; (conv => whnf))) | (refine IteP.mk (fun _ => W.mk ?_) (fun _ => W.mk ?_) <;> first | (exfalso; omega) | (conv => whnf)))
          all_goals
            repeat' (first | (refine ob ?_ ?_; (first | trivial | omega | (simp only [inR]; omega) | exact ble (by rfl) | exact SlR.some ‹_› (by omega)); (conv => whnf)) | (first | (refine ra ‹_› (by rfl) ?_; (conv => whnf)) | (refine rb ‹_› (by rfl) ?_; (conv => whnf)) | (refine rc ‹_› (by rfl) ?_; (conv => whnf)) | (refine rd ‹_› (by rfl) ?_; (conv => whnf))))
            exact RoundP.of (k + 1, p.set s.toNat 1, _) (HeadP.of [] ⟨rfl, rfl, rfl, rfl, rfl, rfl, rfl, rfl, trivial⟩ ⟨rfl, rfl, trivial⟩) ⟨hk2, hset, hmk3⟩ (by show t.src.length - (k + 1) < t.src.length - k; omega)
        · have hke : k = t.src.length := by omega
          rw [hke, List.take_length, ← hsc] at hmk2
          repeat' (first | (refine ob ?_ ?_; (first | trivial | omega | (simp only [inR]; omega) | exact ble (by rfl) | exact SlR.some ‹_› (by omega)); (conv => whnf)) | (first | (refine ra ‹_› (by rfl) ?_; (conv => whnf)) | (refine rb ‹_› (by rfl) ?_; (conv => whnf)) | (refine rc ‹_› (by rfl) ?_; (conv => whnf)) | (refine rd ‹_› (by rfl) ?_; (conv => whnf))))
          exact RoundP.of (i + 1, p, ws) (HeadP.of [] ⟨rfl, rfl, rfl, rfl, rfl, rfl, rfl, trivial⟩ ⟨rfl, rfl, trivial⟩) ⟨h1, hrow2, hmk2⟩ (by show seenN S - (i + 1) < seenN S - i; omega)
    · have hie : i = seenN S := by omega
      rw [hie] at hmk
      have holen := hol.len
      have ho60 : on ≤ 60 := by rw [← holen]; exact Nat.le_trans (by rw [lostF, lostN, List.length_map]; exact List.length_filter_le _ _) (by rw [List.length_range]; exact hwl60)
      refine LoopP.of { α := Nat × List Int × List Value, fr := fun x => [(1, .v (.slice a n c)), (2, .c (.ptr 0 0)), (10, .v (.slice oa on oc)), (12, .c (.row 56 wn)), (16, .v (I x.1))], H := fun x => [(0, .cells .anon [.val (.slice wa wn wc), .val (.slice ka kn kc)] 25), (56, .row none wn x.2.2 3 1)], ok := fun x _ => x.1 ≤ (lostF d S).length ∧ Row intE x.2.1 wn x.2.2 ∧ Mk wn x.2.1 (srcsN S (seenN S) ++ (lostF d S).take x.1), m := fun x => (lostF d S).length - x.1 }
        (0, q, vs) (HeadP.of [] ⟨rfl, rfl, rfl, rfl, rfl, trivial⟩ ⟨rfl, rfl, trivial⟩) ⟨Nat.zero_le _, hrow, by show Mk wn q (_ ++ []); rw [List.append_nil]; exact hmk⟩ (fun _ => ⟨rfl, rfl⟩) (fun x G8 hg8 hx => W.mk ?_)
      obtain ⟨k, p, ws⟩ := x
      obtain ⟨hk, hrow2, hmk2⟩ := hx
      dsimp only at hk hrow2 hmk2
      have hol8 := SlR.grow (G := G6) (G' := G8) (fun _ _ h => h) hol (hg7.trans hg8)
      have hpl : p.length = wn := hmk2.1
      have hwsl : ws.length = wn := by rw [hrow2.len]; exact Nat.mul_one _
      dsimp only
      (conv => whnf)
      refine IteP.mk (fun hk1 => W.mk ?_) (fun hk1 => W.mk ?_) <;> (conv => whnf)
      · have hk2 : k < (lostF d S).length := by omega
        have hcs := hol8.el hk2
        obtain ⟨s0, s1, _⟩ := lost_mem (List.getElem_mem hk2)
        have hfr := lost_fresh hk2
        have htk : (lostF d S).take (k + 1) = (lostF d S).take k ++ [(lostF d S)[k]] := by rw [List.take_add_one, List.getElem?_eq_getElem hk2]; rfl
        generalize (lostF d S)[k] = s at hcs s0 s1 hfr htk
        have hs2 : s.toNat < p.length := by omega
        have hp0 : p[s.toNat] = 0 := (hmk2.2 _ hs2).2 (by rw [show ((s.toNat : Nat) : Int) = s by omega]; exact hfr)
        have hset := Row.setAt hrow2 (i := s.toNat) (us := [I 2]) (d := 0) (m := 1) (x := 2) hs2 (by decide) rfl
        have hmk3 := mk_set hmk2 s0 (v := 2) (by decide)
        rw [List.append_assoc, ← htk] at hmk3
        repeat' (first | (refine ob ?_ ?_; (first | trivial | omega | (simp only [inR]; omega) | exact ble (by rfl) | exact SlR.some ‹_› (by omega)); (conv => whnf)) | (first | (refine ra ‹_› (by rfl) ?_; (conv => whnf)) | (refine rb ‹_› (by rfl) ?_; (conv => whnf)) | (refine rc ‹_› (by rfl) ?_; (conv => whnf)) | (refine rd ‹_› (by rfl) ?_; (conv => whnf))))
        refine OblP.mk ⟨_, _, _, rfl⟩ (W.mk ?_)
        (conv => whnf)
        refine ForkP.mk (fun hin => W.mk ?_) (fun hin => W.mk ?_) <;> (conv => whnf)
        rotate_left
        · exfalso
          rw [inF, decide_eq_false_iff_not] at hin
          omega
        repeat' (first | (refine ob ?_ ?_; (first | trivial | omega | (simp only [inR]; omega) | exact ble (by rfl) | exact SlR.some ‹_› (by omega)); (conv => whnf)) | (first | (refine ra ‹_› (by rfl) ?_; (conv => whnf)) | (refine rb ‹_› (by rfl) ?_; (conv => whnf)) | (refine rc ‹_› (by rfl) ?_; (conv => whnf)) | (refine rd ‹_› (by rfl) ?_; (conv => whnf))))
        refine EqP.row hrow2 hs2 (W.mk ?_)
        generalize p[s.toNat] = z at hp0
        (conv => whnf)
        repeat' (first | (refine ob ?_ ?_; (first | trivial | omega | (simp only [inR]; omega) | exact ble (by rfl) | exact SlR.some ‹_› (by omega)); (conv => whnf)) | (first | (refine ra ‹_› (by rfl) ?_; (conv => whnf)) | (refine rb ‹_› (by rfl) ?_; (conv => whnf)) | (refine rc ‹_› (by rfl) ?_; (conv => whnf)) | (refine rd ‹_› (by rfl) ?_; (conv => whnf))) | (refine IteP.mk (fun _ => W.mk ?_) (fun _ => W.mk ?_) <;> first | (exfalso; omega) | (conv => whnf)))
        exact RoundP.of (k + 1, p.set s.toNat 2, _) (HeadP.of [] ⟨rfl, rfl, rfl, rfl, rfl, trivial⟩ ⟨rfl, rfl, trivial⟩) ⟨hk2, hset, hmk3⟩ (by show (lostF d S).length - (k + 1) < (lostF d S).length - k; omega)
      · have hke : k = (lostF d S).length := by omega
        rw [hke, List.take_length] at hmk2
        refine LoopP.of { α := Nat, fr := fun x => [(1, .v (.slice a n c)), (10, .v (.slice oa on oc)), (12, .c (.row 56 wn)), (17, .v (I x))], H := fun x => [(56, .row none wn ws 3 1)], ok := fun x _ => x ≤ wn, m := fun x => wn - x }
          0 (HeadP.of [] ⟨rfl, rfl, rfl, rfl, trivial⟩ ⟨rfl, trivial⟩) (Nat.zero_le _) (fun _ => ⟨rfl, rfl⟩) (fun (u : Nat) G9 hg9 (hu : u ≤ wn) => W.mk ?_)
        dsimp only
        (conv => whnf)
        refine IteP.mk (fun hu1 => W.mk ?_) (fun hu1 => W.mk ?_) <;> (conv => whnf)
        · have hu2 : u < p.length := by omega
          have hp0 : p[u] ≠ 0 := fun e => (hmk2.2 _ hu2).1 e (all_seen (by omega))
          repeat' (first | (refine ob ?_ ?_; (first | trivial | omega | (simp only [inR]; omega) | exact ble (by rfl) | exact SlR.some ‹_› (by omega)); (conv => whnf)) | (first | (refine ra ‹_› (by rfl) ?_; (conv => whnf)) | (refine rb ‹_› (by rfl) ?_; (conv => whnf)) | (refine rc ‹_› (by rfl) ?_; (conv => whnf)) | (refine rd ‹_› (by rfl) ?_; (conv => whnf))))
          refine EqP.row hrow2 hu2 (W.mk ?_)
          generalize p[u] = z at hp0
          (conv => whnf)
          repeat' (first | (refine ob ?_ ?_; (first | trivial | omega | (simp only [inR]; omega) | exact ble (by rfl) | exact SlR.some ‹_› (by omega)); (conv => whnf)) | (first | (refine ra ‹_› (by rfl) ?_; (conv => whnf)) | (refine rb ‹_› (by rfl) ?_; (conv => whnf)) | (refine rc ‹_› (by rfl) ?_; (conv => whnf)) | (refine rd ‹_› (by rfl) ?_; (conv => whnf))) | (refine IteP.mk (fun _ => W.mk ?_) (fun _ => W.mk ?_) <;> first | (exfalso; omega) | (conv => whnf)))
          exact RoundP.of (u + 1) (HeadP.of [] ⟨rfl, rfl, rfl, rfl, trivial⟩ ⟨rfl, trivial⟩) (by show u + 1 ≤ wn; omega) (by show wn - (u + 1) < wn - u; omega)
        · refine LoopP.of { α := Nat, fr := fun x => [(1, .v (.slice a n c)), (10, .v (.slice oa on oc)), (18, .v (I x))], H := fun x => [], ok := fun x _ => x ≤ steps.length ∧ ∀ y ∈ steps.take x, ¬ BadStep y, m := fun x => steps.length - x }
            0 (HeadP.of [] ⟨rfl, rfl, rfl, trivial⟩ trivial) ⟨Nat.zero_le _, fun y hy => by cases hy⟩ (fun _ => ⟨rfl, rfl⟩) (fun (u : Nat) G10 hg10 hx => W.mk ?_)
          obtain ⟨hu3, hnb⟩ := hx
          dsimp only
          (conv => whnf)
          refine IteP.mk (fun hu4 => W.mk ?_) (fun hu4 => W.mk ?_) <;> (conv => whnf)
          · have hu5 : u < steps.length := by omega
            obtain ⟨_, _, _, e, hsr10, _⟩ := spsRd.grow (hG6.trans (hg7.trans (hg8.trans (hg9.trans hg10)))) hsr
            cases e
            obtain ⟨cs, c1, c2, c3⟩ := hsr10.at_ u hu5
            have htk : steps.take (u + 1) = steps.take u ++ [steps[u]] := by rw [List.take_add_one, List.getElem?_eq_getElem hu5]; rfl
            have hnx : ¬ BadStep steps[u] → ∀ y ∈ steps.take (u + 1), ¬ BadStep y := fun h y hy => by
              rw [htk] at hy
              rcases List.mem_append.1 hy with hy | hy
              · exact hnb y hy
              · rw [List.mem_singleton.1 hy]; exact h
            generalize steps[u] = x at c3 hnx
            obtain ⟨qv, rfl, hqv⟩ := c3
            obtain ⟨qa, qn, qc, rfl, hql, _⟩ := id hqv
            have hqlen := hql.len
            repeat' (first | (refine ob ?_ ?_; (first | trivial | omega | (simp only [inR]; omega) | exact ble (by rfl) | exact SlR.some ‹_› (by omega)); (conv => whnf)) | (first | (refine ra ‹_› (by rfl) ?_; (conv => whnf)) | (refine rb ‹_› (by rfl) ?_; (conv => whnf)) | (refine rc ‹_› (by rfl) ?_; (conv => whnf)) | (refine rd ‹_› (by rfl) ?_; (conv => whnf))))
            refine IteP.mk (fun b1 => W.mk ?_) (fun b1 => W.mk ?_) <;> (conv => whnf)
            · repeat' (first | (refine ob ?_ ?_; (first | trivial | omega | (simp only [inR]; omega) | exact ble (by rfl) | exact SlR.some ‹_› (by omega)); (conv => whnf)) | (first | (refine ra ‹_› (by rfl) ?_; (conv => whnf)) | (refine rb ‹_› (by rfl) ?_; (conv => whnf)) | (refine rc ‹_› (by rfl) ?_; (conv => whnf)) | (refine rd ‹_› (by rfl) ?_; (conv => whnf))))
              refine IteP.mk (fun b2 => W.mk ?_) (fun b2 => W.mk ?_) <;> (conv => whnf)
              · repeat' (first | (refine ob ?_ ?_; (first | trivial | omega | (simp only [inR]; omega) | exact ble (by rfl) | exact SlR.some ‹_› (by omega)); (conv => whnf)) | (first | (refine ra ‹_› (by rfl) ?_; (conv => whnf)) | (refine rb ‹_› (by rfl) ?_; (conv => whnf)) | (refine rc ‹_› (by rfl) ?_; (conv => whnf)) | (refine rd ‹_› (by rfl) ?_; (conv => whnf))))
                refine IteP.mk (fun b3 => W.mk ?_) (fun b3 => W.mk ?_) <;> (conv => whnf)
                · (refine ScaP.g okU (G := fun _ => none) (x := ()) rfl (fun v hv => W.mk ?_); subst hv; (conv => whnf); refine ForkP.mk (fun _ => W.mk ?_) (fun h => by cases h); (conv => whnf); exact FinP.mk rfl)
                · repeat' (first | (refine ob ?_ ?_; (first | trivial | omega | (simp only [inR]; omega) | exact ble (by rfl) | exact SlR.some ‹_› (by omega)); (conv => whnf)) | (first | (refine ra ‹_› (by rfl) ?_; (conv => whnf)) | (refine rb ‹_› (by rfl) ?_; (conv => whnf)) | (refine rc ‹_› (by rfl) ?_; (conv => whnf)) | (refine rd ‹_› (by rfl) ?_; (conv => whnf))))
                  exact RoundP.of (u + 1) (HeadP.of [] ⟨rfl, rfl, rfl, trivial⟩ trivial) ⟨hu5, hnx (fun h => b3 (by have := congrArg List.length h.2.2; rw [List.length_nil] at this; omega))⟩ (by show steps.length - (u + 1) < steps.length - u; omega)
              · repeat' (first | (refine ob ?_ ?_; (first | trivial | omega | (simp only [inR]; omega) | exact ble (by rfl) | exact SlR.some ‹_› (by omega)); (conv => whnf)) | (first | (refine ra ‹_› (by rfl) ?_; (conv => whnf)) | (refine rb ‹_› (by rfl) ?_; (conv => whnf)) | (refine rc ‹_› (by rfl) ?_; (conv => whnf)) | (refine rd ‹_› (by rfl) ?_; (conv => whnf))))
                exact RoundP.of (u + 1) (HeadP.of [] ⟨rfl, rfl, rfl, trivial⟩ trivial) ⟨hu5, hnx (fun h => b2 (by have := h.2.1; omega))⟩ (by show steps.length - (u + 1) < steps.length - u; omega)
            · repeat' (first | (refine ob ?_ ?_; (first | trivial | omega | (simp only [inR]; omega) | exact ble (by rfl) | exact SlR.some ‹_› (by omega)); (conv => whnf)) | (first | (refine ra ‹_› (by rfl) ?_; (conv => whnf)) | (refine rb ‹_› (by rfl) ?_; (conv => whnf)) | (refine rc ‹_› (by rfl) ?_; (conv => whnf)) | (refine rd ‹_› (by rfl) ?_; (conv => whnf))))
              exact RoundP.of (u + 1) (HeadP.of [] ⟨rfl, rfl, rfl, trivial⟩ trivial) ⟨hu5, hnx (fun h => b1 h.1)⟩ (by show steps.length - (u + 1) < steps.length - u; omega)
          · have hue : u = steps.length := by omega
            rw [hue, List.take_length] at hnb
            rw [lost_none hS hnb] at holen
            have hon0 : on = 0 := holen.symm
            refine IteP.mk (fun _ => W.mk ?_) (fun h => absurd (by omega) h)
            (conv => whnf)
            (refine ScaP.g okU (G := fun _ => none) (x := ()) rfl (fun v hv => W.mk ?_); subst hv; (conv => whnf); refine ForkP.mk (fun _ => W.mk ?_) (fun h => by cases h); (conv => whnf); exact FinP.mk rfl)
end Go.Proofs.YtfppbjfbghaclaaGreat
