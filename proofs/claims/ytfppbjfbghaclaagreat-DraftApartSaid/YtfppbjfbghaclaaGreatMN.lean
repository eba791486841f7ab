/- Layer 3 (plain): what is shown; protected words stay. Layer 3: the law of DraftKept. Layer 3 (plain): what holds of every sheet; a change that is undone at once; when all changes are undone. Layer 3 (plain): a change, as it is seen; two changes that do not touch. Layer 3: the law of DraftApart. -/
import Derived.Test.YtfppbjfbghaclaaGreatML
import Derived.Test.YtfppbjfbghaclaaGreatMI
set_option linter.unusedSimpArgs false
set_option linter.unusedVariables false
namespace Go.Proofs.YtfppbjfbghaclaaGreat
open Go.Pal Go.RowKit
set_option maxRecDepth 100000
theorem visN (l : List It) : ∀ n, n ≤ l.length → (placesN l n).map (fun i => l.getD i default) = (l.take n).filter (fun y => y.g = 0)
  | 0, _ => by simp [placesN]
  | n + 1, h => by
    have ih := visN l n (by omega)
    have h1 : n < l.length := by omega
    have hgd : l.getD n default = l[n] := by simp [h1]
    rw [placesN_succ, List.take_add_one, List.getElem?_eq_getElem h1, List.filter_append, hgd]
    split
    · rename_i hg
      rw [List.map_append, ih]
      congr 1
      show [l.getD n default] = _
      rw [hgd, Option.toList_some, List.filter_cons, if_pos (by simpa using hg)]; rfl
    · rename_i hg
      rw [ih]
      simp [hg]
def visF (l : List It) : List It := l.filter fun y => y.g = 0
theorem places_vis (l : List It) : (placesF l).map (fun i => l.getD i default) = visF l := by
  rw [placesF, visN l l.length (Nat.le_refl _), List.take_length]; rfl
theorem shown_vis (S : Sh) : shownF S = (visF S.its).map (·.vi) := by rw [← places_vis, shownF, List.map_map]; rfl
theorem places_len (l : List It) : (placesF l).length = (visF l).length := by rw [← places_vis, List.length_map]
theorem play_inv {d : Dr} {I : Sh → Prop} (hI : ∀ {S S' : Sh} {x : Sp}, PosL S → I S → stepF d S x = some S' → I S') : ∀ {steps : List Sp} {S S' : Sh} {i : Nat}, PosL S → I S → playF d S steps i = .inr S' → I S' ∧ PosL S'
  | [], S, S', i, hp, h, e => by cases e; exact ⟨h, hp⟩
  | x :: r, S, S', i, hp, h, e => by
    simp only [playF] at e
    split at e
    · rename_i S1 hs
      exact play_inv hI (posL_step hp hs) (hI hp h hs) e
    · cases e
theorem posL_begin (d : Dr) : PosL (beginS d) := ⟨Int.le_refl _, fun n hn => by cases hn⟩
theorem endF_ok {d : Dr} {steps : List Sp} {S : Sh} (h : endF d steps = .ok S) : validF d = true ∧ steps.length ≤ 80 ∧ playF d (beginS d) steps 0 = .inr S := by
  unfold endF at h
  split at h
  · cases h
  · rename_i hv
    split at h
    · cases h
    · split at h
      · cases h
      · rename_i e; cases h; exact ⟨by simpa using hv, by omega, e⟩
end Go.Proofs.YtfppbjfbghaclaaGreat

namespace Go.Proofs.YtfppbjfbghaclaaGreat
open Go.Pal Go.RowKit
set_option maxRecDepth 100000
theorem ready_iff {d : Dr} {steps : List Sp} : readyF d steps = true ↔ thinF d steps = true ∧ ∃ S, endF d steps = .ok S := by
  rw [readyF, Bool.and_eq_true]
  refine and_congr_right fun _ => ?_
  cases endF d steps <;> simp [okE]
abbrev lawT (T : Tab Tryz.prog) : Tab Tryz.prog := Tab.cons 15 _ awake15 body15 (Tab.cons 25 _ ready25 body25 (Tab.cons 17 _ draft17 body17 (Tab.cons 18 _ steps18 body18 (Tab.cons 26 _ play26 body26 T))))
end Go.Proofs.YtfppbjfbghaclaaGreat

namespace Go.Proofs.YtfppbjfbghaclaaGreat
open Go.Pal Go.RowKit
set_option maxRecDepth 100000
theorem playF_app {d : Dr} : ∀ (xs ys : List Sp) (S : Sh) (i : Nat), playF d S (xs ++ ys) i = match playF d S xs i with
    | .inl k => .inl k
    | .inr S' => playF d S' ys (i + xs.length)
  | [], ys, S, i => rfl
  | x :: xs, ys, S, i => by
    show (match stepF d S x with
      | some S' => playF d S' (xs ++ ys) (i + 1)
      | none => .inl i) = match (match stepF d S x with
      | some S' => playF d S' xs (i + 1)
      | none => .inl i) with
      | .inl k => .inl k
      | .inr S' => playF d S' ys (i + (xs.length + 1))
    cases stepF d S x with
    | none => rfl
    | some S1 =>
      have h := playF_app (d := d) xs ys S1 (i + 1)
      rw [show i + 1 + xs.length = i + (xs.length + 1) by omega] at h
      exact h
def It.key (y : It) : ByteArray × Int × Int := (y.t, y.o, y.m)
theorem goneF_key (n : Int) : ∀ (ps : List Nat) (l : List It), (goneF l n ps).map It.key = l.map It.key
  | [], l => rfl
  | p :: ps, l => by
    have e : goneF l n (p :: ps) = goneF (l.set p { l.getD p default with g := n }) n ps := rfl
    rw [e, goneF_key n ps, List.map_set]
    by_cases hp : p < l.length
    · have hgd : l.getD p default = l[p] := by simp [hp]
      rw [hgd]
      have : (l.map It.key)[p]'(by simpa using hp) = It.key l[p] := by simp
      show (l.map It.key).set p (It.key l[p]) = _
      rw [← this, List.set_getElem_self]
    · rw [List.set_eq_of_length_le (by simpa using hp)]
theorem goneF_of (n : Int) : ∀ (ps : List Nat) (l : List It), ∀ y ∈ goneF l n ps, ∃ z ∈ l, y.key = z.key ∧ (y.g = z.g ∨ y.g = n)
  | [], l, y, hy => ⟨y, hy, rfl, .inl rfl⟩
  | p :: ps, l, y, hy => by
    have hy : y ∈ goneF (l.set p { l.getD p default with g := n }) n ps := hy
    obtain ⟨z, hz, h1, h2⟩ := goneF_of n ps _ y hy
    by_cases hp : p < l.length
    · rcases List.mem_or_eq_of_mem_set hz with h3 | rfl
      · exact ⟨z, h3, h1, h2⟩
      · have hgd : l.getD p default = l[p] := by simp [hp]
        refine ⟨l[p], List.getElem_mem hp, ?_, .inr ?_⟩
        · rw [h1, hgd]; rfl
        · rcases h2 with h2 | h2
          · exact h2
          · exact h2
    · rw [List.set_eq_of_length_le (by omega)] at hz
      exact ⟨z, hz, h1, h2⟩
theorem backF_key (n : Int) (y : It) : (backF n y).key = y.key := by unfold backF; split <;> rfl
theorem backF_m (n : Int) (y : It) : (backF n y).m = y.m := by unfold backF; split <;> rfl
theorem key_m {y z : It} (h : y.key = z.key) : y.m = z.m := congrArg (fun k => k.2.2) h
def baseF (l : List It) : List (ByteArray × Int × Int) := (l.map It.key).filter fun k => k.2.2 = 0
structure Rch (d : Dr) (S : Sh) : Prop where
  wf : Inv d.ws.length S
  pos : PosL S
  le : ∀ n ∈ S.live, n ≤ S.ch
  inc : S.live.Pairwise (· < ·)
  gl : ∀ y ∈ S.its, y.g = 0 ∨ y.g ∈ S.live
  ml : ∀ y ∈ S.its, y.m = 0 ∨ y.m ∈ S.live
  base : baseF S.its = (List.range d.ws.length).map fun (i : Nat) => ((d.ws.getD i default).t, (i : Int), 0)
theorem rch_begin (d : Dr) : Rch d (beginS d) := by
  refine ⟨inv_begin d, posL_begin d, fun n hn => (by cases hn), List.Pairwise.nil, fun y hy => ?_, fun y hy => ?_, ?_⟩
  · obtain ⟨i, hi, rfl⟩ := List.mem_map.1 hy; exact .inl rfl
  · obtain ⟨i, hi, rfl⟩ := List.mem_map.1 hy; exact .inl rfl
  · show ((List.map _ _).map It.key).filter _ = _
    rw [List.map_map, List.filter_eq_self.2]
    · rfl
    · intro k hk
      obtain ⟨i, hi, rfl⟩ := List.mem_map.1 hk
      rfl
theorem baseF_app (l r : List It) : baseF (l ++ r) = baseF l ++ baseF r := by rw [baseF, List.map_append, List.filter_append]; rfl
theorem rch_step {d : Dr} {S S' : Sh} {x : Sp} (h : Rch d S) (hs : stepF d S x = some S') : Rch d S' := by
  refine ⟨inv_step h.pos.1 h.wf hs, posL_step h.pos hs, ?_, ?_, ?_, ?_, ?_⟩ <;> unfold stepF at hs <;> split at hs
  · unfold changeF at hs
    split at hs
    · cases hs
      intro n hn
      show n ≤ S.ch + 1
      rcases List.mem_append.1 hn with hn | hn
      · have := h.le n hn; omega
      · have : n = S.ch + 1 := by simpa using hn
        omega
    · cases hs
  · unfold undoF at hs
    split at hs
    · cases hs
      exact fun n hn => h.le n (List.mem_filter.1 hn).1
    · cases hs
  · unfold changeF at hs
    split at hs
    · cases hs
      refine List.pairwise_append.2 ⟨h.inc, by simp, fun a ha b hb => ?_⟩
      have : b = S.ch + 1 := by simpa using hb
      have := h.le a ha
      omega
    · cases hs
  · unfold undoF at hs
    split at hs
    · cases hs; exact h.inc.filter _
    · cases hs
  · unfold changeF at hs
    split at hs
    · cases hs
      intro y hy
      show y.g = 0 ∨ y.g ∈ S.live ++ [S.ch + 1]
      have old : y ∈ goneF S.its (S.ch + 1) (cutF S.its x) → y.g = 0 ∨ y.g ∈ S.live ++ [S.ch + 1] := fun hm => by
        obtain ⟨z, hz, _, h2⟩ := goneF_of _ _ _ y hm
        rcases h2 with h2 | h2
        · rw [h2]; exact (h.gl z hz).imp id fun h3 => List.mem_append_left _ h3
        · rw [h2]; exact .inr (by simp)
      rcases List.mem_append.1 hy with hy | hy
      · rcases List.mem_append.1 hy with hy | hy
        · exact old (List.mem_of_mem_take hy)
        · obtain ⟨t, _, rfl⟩ := List.mem_map.1 hy; exact .inl rfl
      · exact old (List.mem_of_mem_drop hy)
    · cases hs
  · unfold undoF at hs
    split at hs
    · cases hs
      intro y hy
      obtain ⟨z, hz, rfl⟩ := List.mem_map.1 hy
      show (backF x.u z).g = 0 ∨ (backF x.u z).g ∈ S.live.filter (· != x.u)
      unfold backF
      split
      · exact .inl rfl
      · rename_i hne
        rcases h.gl z (List.mem_filter.1 hz).1 with h3 | h3
        · exact .inl h3
        · exact .inr (List.mem_filter.2 ⟨h3, by simpa using hne⟩)
    · cases hs
  · unfold changeF at hs
    split at hs
    · cases hs
      intro y hy
      show y.m = 0 ∨ y.m ∈ S.live ++ [S.ch + 1]
      have old : y ∈ goneF S.its (S.ch + 1) (cutF S.its x) → y.m = 0 ∨ y.m ∈ S.live ++ [S.ch + 1] := fun hm => by
        obtain ⟨z, hz, h1, _⟩ := goneF_of _ _ _ y hm
        rw [key_m h1]; exact (h.ml z hz).imp id fun h3 => List.mem_append_left _ h3
      rcases List.mem_append.1 hy with hy | hy
      · rcases List.mem_append.1 hy with hy | hy
        · exact old (List.mem_of_mem_take hy)
        · obtain ⟨t, _, rfl⟩ := List.mem_map.1 hy; exact .inr (by simp)
      · exact old (List.mem_of_mem_drop hy)
    · cases hs
  · unfold undoF at hs
    split at hs
    · cases hs
      intro y hy
      obtain ⟨z, hz, rfl⟩ := List.mem_map.1 hy
      obtain ⟨hz1, hz2⟩ := List.mem_filter.1 hz
      show (backF x.u z).m = 0 ∨ (backF x.u z).m ∈ S.live.filter (· != x.u)
      rw [backF_m]
      rcases h.ml z hz1 with h3 | h3
      · exact .inl h3
      · exact .inr (List.mem_filter.2 ⟨h3, hz2⟩)
    · cases hs
  · unfold changeF at hs
    split at hs
    · cases hs
      show baseF (insF (goneF S.its (S.ch + 1) (cutF S.its x)) (placeF S.its x) (putF (S.ch + 1) x.put)) = _
      have hput : baseF (putF (S.ch + 1) x.put) = [] := by
        rw [baseF, List.filter_eq_nil_iff]
        intro k hk
        simp only [putF, List.map_map, List.mem_map, Function.comp] at hk
        obtain ⟨_, _, rfl⟩ := hk
        have := h.pos.1
        show ¬ decide (S.ch + 1 = 0) = true
        rw [decide_eq_false (by omega)]; decide
      rw [insF, baseF_app, baseF_app, hput, List.append_nil, ← baseF_app, List.take_append_drop, baseF, goneF_key]
      exact h.base
    · cases hs
  · unfold undoF at hs
    split at hs
    · rename_i hu
      cases hs
      have hu1 : 1 ≤ x.u := by
        unfold undoableF at hu
        exact h.pos.2 _ (of_decide_eq_true (Bool.and_eq_true_iff.1 hu).1)
      show baseF ((S.its.filter fun y => y.m != x.u).map (backF x.u)) = _
      rw [← h.base]
      have key : ∀ l : List It, baseF ((l.filter fun y => y.m != x.u).map (backF x.u)) = baseF l := by
        intro l
        rw [baseF, baseF, List.map_map]
        have : (It.key ∘ backF x.u) = It.key := funext fun y => backF_key x.u y
        rw [this, List.filter_map, List.filter_map, List.filter_filter]
        congr 1
        apply List.filter_congr
        intro y _
        simp only [Function.comp, It.key]
        by_cases h0 : y.m = 0
        · simp [h0]; omega
        · simp [h0]
      exact key S.its
    · cases hs
theorem rch_play {d : Dr} {steps : List Sp} {S S' : Sh} {i : Nat} (h : Rch d S) (e : playF d S steps i = .inr S') : Rch d S' :=
  (play_inv (I := Rch d) (fun _ h hs => rch_step h hs) h.pos h e).1
theorem rch_end {d : Dr} {steps : List Sp} {S : Sh} (h : endF d steps = .ok S) : Rch d S := rch_play (rch_begin d) (endF_ok h).2.2
theorem endF_app {d : Dr} {steps more : List Sp} {S : Sh} (h : endF d steps = .ok S) (hl : steps.length + more.length ≤ 80) : endF d (steps ++ more) = match playF d S more steps.length with
    | .inl k => .fail k
    | .inr S' => .ok S' := by
  obtain ⟨hv, _, hp⟩ := endF_ok h
  unfold endF
  rw [if_neg (by rw [hv]; decide), if_neg (by rw [List.length_append]; omega), playF_app, hp]
  simp only [Nat.zero_add]
  cases playF d S more steps.length <;> rfl
end Go.Proofs.YtfppbjfbghaclaaGreat

namespace Go.Proofs.YtfppbjfbghaclaaGreat
open Go.Pal Go.RowKit
set_option maxRecDepth 100000
theorem placesF_lt (l : List It) : (placesF l).Pairwise (· < ·) := List.pairwise_lt_range.filter _
theorem placesN_filter (l : List It) {m : Nat} (h : m ≤ l.length) : placesN l m = (placesF l).filter fun i => decide (i < m) := by
  have : ∀ k, placesN l m = (placesN l (m + k)).filter fun i => decide (i < m) := by
    intro k
    induction k with
    | zero =>
      rw [Nat.add_zero]
      exact (List.filter_eq_self.2 fun i hi => decide_eq_true (placesN_lt hi)).symm
    | succ k ih =>
      rw [← Nat.add_assoc, placesN_succ]
      split
      · rw [List.filter_append, ← ih]
        have : ([m + k].filter fun i => decide (i < m)) = [] := by simp
        rw [this, List.append_nil]
      · exact ih
  have h2 := this (l.length - m)
  rw [show m + (l.length - m) = l.length by omega] at h2
  exact h2
theorem filter_lt_take : ∀ {P : List Nat} {a : Nat}, P.Pairwise (· < ·) → (h : a < P.length) → P.filter (fun i => decide (i < P[a])) = P.take a
  | [], a, _, h => absurd h (Nat.not_lt_zero a)
  | x :: r, 0, hp, h => by
    obtain ⟨h1, _⟩ := List.pairwise_cons.1 hp
    rw [List.take_zero, List.filter_eq_nil_iff]
    intro i hi
    simp only [List.getElem_cons_zero, decide_eq_true_eq]
    rcases List.mem_cons.1 hi with rfl | hi
    · omega
    · have := h1 i hi; omega
  | x :: r, a + 1, hp, h => by
    obtain ⟨h1, h2⟩ := List.pairwise_cons.1 hp
    have hr : a < r.length := by simpa using h
    have hx : x < r[a] := h1 _ (List.getElem_mem hr)
    rw [List.take_succ_cons, List.filter_cons, List.getElem_cons_succ, if_pos (decide_eq_true hx), filter_lt_take h2 hr]
theorem filter_le_take : ∀ {P : List Nat} {a : Nat}, P.Pairwise (· < ·) → (h : a < P.length) → P.filter (fun i => decide (i < P[a] + 1)) = P.take (a + 1)
  | [], a, _, h => absurd h (Nat.not_lt_zero a)
  | x :: r, 0, hp, h => by
    obtain ⟨h1, _⟩ := List.pairwise_cons.1 hp
    rw [List.filter_cons, if_pos (by simp), List.filter_eq_nil_iff.2]
    · rfl
    · intro i hi
      have := h1 i hi
      simp only [List.getElem_cons_zero, decide_eq_true_eq]; omega
  | x :: r, a + 1, hp, h => by
    obtain ⟨h1, h2⟩ := List.pairwise_cons.1 hp
    have hr : a < r.length := by simpa using h
    have hx : x < r[a] := h1 _ (List.getElem_mem hr)
    rw [List.take_succ_cons, List.filter_cons, List.getElem_cons_succ, if_pos (decide_eq_true (by omega)), filter_le_take h2 hr]
theorem goneF_at (n : Int) (i : Nat) : ∀ (ps : List Nat) (l : List It), i ∉ ps → (goneF l n ps).getD i default = l.getD i default
  | [], l, _ => rfl
  | p :: ps, l, h => by
    have h2 := goneF_at n i ps (l.set p { l.getD p default with g := n }) fun h1 => h (by simp [h1])
    have e : goneF l n (p :: ps) = goneF (l.set p { l.getD p default with g := n }) n ps := rfl
    rw [e, h2, List.getD_eq_getElem?_getD, List.getElem?_set_ne (fun e => h (by simp [e])), List.getD_eq_getElem?_getD]
theorem goneF_in (n : Int) (i : Nat) : ∀ (ps : List Nat) (l : List It), i ∈ ps → i < l.length → ((goneF l n ps).getD i default).g = n
  | [], l, h, _ => by cases h
  | p :: ps, l, h, hi => by
    have e : goneF l n (p :: ps) = goneF (l.set p { l.getD p default with g := n }) n ps := rfl
    rw [e]
    by_cases hm : i ∈ ps
    · exact goneF_in n i ps _ hm (by rw [List.length_set]; exact hi)
    · rw [goneF_at n i ps _ hm]
      have : i = p := by
        rcases List.mem_cons.1 h with h | h
        · exact h
        · exact absurd h hm
      subst this
      simp [List.getD_eq_getElem?_getD, hi]
theorem places_gone {l : List It} {n : Int} (hn : n ≠ 0) (cs : List Nat) : placesF (goneF l n cs) = (placesF l).filter fun i => !decide (i ∈ cs) := by
  rw [placesF, placesN, goneF_len, placesF, placesN, List.filter_filter]
  apply List.filter_congr
  intro i hi
  have hi := List.mem_range.1 hi
  by_cases hm : i ∈ cs
  · rw [decide_eq_false (by rw [goneF_in n i _ _ hm hi]; exact hn), decide_eq_true hm]; rfl
  · rw [goneF_at n i _ _ hm, decide_eq_false hm]; rfl
theorem vis_gone {l : List It} {n : Int} {a c : Nat} (hn : n ≠ 0) : visF (goneF l n (((placesF l).drop a).take c)) = (visF l).take a ++ (visF l).drop (a + c) := by
  have hnd : (placesF l).Nodup := by rw [List.nodup_iff_pairwise_ne]; exact (placesF_lt l).imp fun h => by omega
  have hcs : ∀ p ∈ ((placesF l).drop a).take c, p < l.length := fun p hp => placesN_lt (List.mem_of_mem_drop (List.mem_of_mem_take hp))
  have hpl := places_gone (l := l) (n := n) hn (((placesF l).drop a).take c)
  have hsplit : (placesF l).filter (fun i => !decide (i ∈ ((placesF l).drop a).take c)) = (placesF l).take a ++ (placesF l).drop (a + c) := by
    have e : placesF l = (placesF l).take a ++ (((placesF l).drop a).take c ++ (placesF l).drop (a + c)) := by
      rw [← List.drop_drop, List.take_append_drop, List.take_append_drop]
    have hnd2 := hnd
    rw [e] at hnd2
    obtain ⟨_, n2, n3⟩ := List.nodup_append.1 hnd2
    obtain ⟨_, _, n6⟩ := List.nodup_append.1 n2
    generalize hA : (placesF l).take a = A at *
    generalize hB : ((placesF l).drop a).take c = B at *
    generalize hC : (placesF l).drop (a + c) = C at *
    rw [e, List.filter_append, List.filter_append]
    have f1 : A.filter (fun i => !decide (i ∈ B)) = A := List.filter_eq_self.2 fun i hi => by
      have : i ∉ B := fun hb => n3 i hi i (List.mem_append_left _ hb) rfl
      simp [this]
    have f2 : B.filter (fun i => !decide (i ∈ B)) = [] := List.filter_eq_nil_iff.2 fun i hi => by simp [hi]
    have f3 : C.filter (fun i => !decide (i ∈ B)) = C := List.filter_eq_self.2 fun i hi => by
      have : i ∉ B := fun hb => n6 i hb i hi rfl
      simp [this]
    rw [f1, f2, f3, List.nil_append]
  have hout : ∀ i ∈ (placesF l).take a ++ (placesF l).drop (a + c), i ∉ ((placesF l).drop a).take c := fun i hi => by
    rw [← hsplit] at hi
    simpa using (List.mem_filter.1 hi).2
  rw [← places_vis, hpl, hsplit, List.map_congr_left fun i hi => goneF_at n i _ _ (hout i hi), List.map_append, List.map_take, List.map_drop, places_vis]
theorem visF_app (l r : List It) : visF (l ++ r) = visF l ++ visF r := List.filter_append ..
theorem take_gone (n : Int) (m : Nat) : ∀ (ps : List Nat) (l : List It), (∀ p ∈ ps, m ≤ p) → (goneF l n ps).take m = l.take m
  | [], l, _ => rfl
  | p :: ps, l, h => by
    have e : goneF l n (p :: ps) = goneF (l.set p { l.getD p default with g := n }) n ps := rfl
    rw [e, take_gone n m ps _ fun q hq => h q (by simp [hq]), List.take_set_of_le (h p (by simp))]
theorem vis_change {d : Dr} {S S1 : Sh} {x : Sp} (h0 : 0 ≤ S.ch) (hc : changeF d S x = some S1) : visF S1.its = (visF S.its).take x.a.toNat ++ putF (S.ch + 1) x.put ++ (visF S.its).drop (x.a.toNat + x.c.toNat) := by
  unfold changeF at hc
  split at hc
  case isFalse => cases hc
  rename_i hf
  cases hc
  obtain ⟨g1, g2, g3, g4, g5⟩ := fine_iff.1 hf.1
  have g2' : 0 ≤ x.c ∧ x.c ≤ 4 := by simpa [inF] using g2
  show visF (insF (goneF S.its (S.ch + 1) (cutF S.its x)) (placeF S.its x) (putF (S.ch + 1) x.put)) = _
  have hput : visF (putF (S.ch + 1) x.put) = putF (S.ch + 1) x.put := List.filter_eq_self.2 fun y hy => by
    obtain ⟨t, _, rfl⟩ := List.mem_map.1 hy; rfl
  have hall : visF (goneF S.its (S.ch + 1) (cutF S.its x)) = (visF S.its).take x.a.toNat ++ (visF S.its).drop (x.a.toNat + x.c.toNat) := vis_gone (by omega)
  have htake : visF ((goneF S.its (S.ch + 1) (cutF S.its x)).take (placeF S.its x)) = (visF S.its).take x.a.toNat := by
    have fin : ∀ {m : Nat}, m ≤ S.its.length → (placesF S.its).filter (fun i => decide (i < m)) = (placesF S.its).take x.a.toNat → visF (S.its.take m) = (visF S.its).take x.a.toNat := fun {m} hm he => by
      have : visF (S.its.take m) = (placesN S.its m).map (fun i => S.its.getD i default) := (visN S.its m hm).symm
      rw [this, placesN_filter S.its hm, he, List.map_take, places_vis]
    by_cases hc0 : 0 < x.c
    · have ha : x.a.toNat < (placesF S.its).length := by omega
      have hpf : placeF S.its x = (placesF S.its)[x.a.toNat] := by
        unfold placeF
        rw [if_pos hc0, List.getD_eq_getElem?_getD, List.getElem?_eq_getElem ha]; rfl
      rw [hpf, take_gone]
      · exact fin (Nat.le_of_lt (placesN_lt (List.getElem_mem ha))) (filter_lt_take (placesF_lt _) ha)
      · intro p hp
        have hp := List.mem_of_mem_take hp
        obtain ⟨k, hk, rfl⟩ := List.mem_iff_getElem.1 hp
        rw [List.getElem_drop]
        have hk : k < (placesF S.its).length - x.a.toNat := by simpa using hk
        by_cases h00 : k = 0
        · subst h00; exact Nat.le_refl _
        · exact Nat.le_of_lt (List.pairwise_iff_getElem.1 (placesF_lt S.its) _ _ ha (by omega) (by omega))
    · have hcut : cutF S.its x = [] := by rw [cutF, show x.c.toNat = 0 by omega]; rfl
      rw [hcut]
      show visF (S.its.take (placeF S.its x)) = _
      by_cases ha0 : 0 < x.a
      · have ha : x.a.toNat - 1 < (placesF S.its).length := by omega
        have hpf : placeF S.its x = (placesF S.its)[x.a.toNat - 1] + 1 := by
          unfold placeF
          rw [if_neg hc0, if_pos ha0, List.getD_eq_getElem?_getD, List.getElem?_eq_getElem ha]; rfl
        rw [hpf]
        refine fin (placesN_lt (List.getElem_mem ha)) ?_
        rw [filter_le_take (placesF_lt _) ha, show x.a.toNat - 1 + 1 = x.a.toNat by omega]
      · have hpf : placeF S.its x = 0 := by unfold placeF; rw [if_neg hc0, if_neg ha0]
        rw [hpf, show x.a.toNat = 0 by omega]; rfl
  have hdrop : visF ((goneF S.its (S.ch + 1) (cutF S.its x)).drop (placeF S.its x)) = (visF S.its).drop (x.a.toNat + x.c.toNat) := by
    have := hall
    rw [← List.take_append_drop (placeF S.its x) (goneF S.its (S.ch + 1) (cutF S.its x)), visF_app, htake] at this
    exact List.append_cancel_left this
  rw [insF, visF_app, visF_app, htake, hdrop, hput]
def canV (d : Dr) (v : List It) (x : Sp) : Prop := 0 ≤ x.a ∧ (0 ≤ x.c ∧ x.c ≤ 4) ∧ x.a + x.c ≤ v.length ∧ (inF x.put.length 0 4 && x.put.all textF) = true ∧ 0 < x.c + x.put.length ∧ ∀ y ∈ (v.drop x.a.toNat).take x.c.toNat, protF d y = false
theorem change_can {d : Dr} {S : Sh} {x : Sp} : (∃ S1, changeF d S x = some S1) ↔ canV d (visF S.its) x := by
  have hcut : ((visF S.its).drop x.a.toNat).take x.c.toNat = (cutF S.its x).map fun i => S.its.getD i default := by rw [cutF, List.map_take, List.map_drop, places_vis]
  have hl := places_len S.its
  have e : (∃ S1, changeF d S x = some S1) ↔ (fineF S.its x = true ∧ (cutF S.its x).all (fun i => !protF d (S.its.getD i default)) = true) := by
    unfold changeF
    split
    · exact ⟨fun _ => ‹_›, fun _ => ⟨_, rfl⟩⟩
    · exact ⟨fun ⟨_, h⟩ => (by cases h), fun h => absurd h ‹_›⟩
  rw [e, fine_iff, canV, hcut]
  constructor
  · rintro ⟨⟨g1, g2, g3, g4, g5⟩, h2⟩
    refine ⟨g1, by simpa [inF] using g2, by omega, g4, g5, fun y hy => ?_⟩
    obtain ⟨i, hi, rfl⟩ := List.mem_map.1 hy
    simpa using List.all_eq_true.1 h2 i hi
  · rintro ⟨g1, g2, g3, g4, g5, h2⟩
    refine ⟨⟨g1, by simpa [inF] using g2, by omega, g4, g5⟩, List.all_eq_true.2 fun i hi => ?_⟩
    rw [h2 _ (List.mem_map.2 ⟨i, hi, rfl⟩)]; rfl
theorem putF_len (n : Int) (put : List ByteArray) : (putF n put).length = put.length := by rw [putF, List.length_map]
theorem putF_t (n : Int) (put : List ByteArray) : (putF n put).map (·.t) = put := by rw [putF, List.map_map]; simp [Function.comp_def]
theorem apart_list {α : Type} (V P1 P2 : List α) {n1 m1 n2 m2 : Nat} (h : n1 + m1 < n2) (hb : n2 + m2 ≤ V.length) :
    (V.take n1 ++ P1 ++ V.drop (n1 + m1)).take (n1 + P1.length + (n2 - (n1 + m1))) ++ P2 ++ (V.take n1 ++ P1 ++ V.drop (n1 + m1)).drop (n1 + P1.length + (n2 - (n1 + m1)) + m2) =
      (V.take n2 ++ P2 ++ V.drop (n2 + m2)).take n1 ++ P1 ++ (V.take n2 ++ P2 ++ V.drop (n2 + m2)).drop (n1 + m1) := by
  have l1 : (V.take n1).length = n1 := by rw [List.length_take]; omega
  have l2 : (V.take n2).length = n2 := by rw [List.length_take]; omega
  have e1 : (V.take n1 ++ P1 ++ V.drop (n1 + m1)).take (n1 + P1.length + (n2 - (n1 + m1))) = V.take n1 ++ P1 ++ (V.drop (n1 + m1)).take (n2 - (n1 + m1)) := by
    rw [List.take_append, List.take_of_length_le (by rw [List.length_append, l1]; omega), List.length_append, l1, show n1 + P1.length + (n2 - (n1 + m1)) - (n1 + P1.length) = n2 - (n1 + m1) by omega]
  have e2 : (V.take n1 ++ P1 ++ V.drop (n1 + m1)).drop (n1 + P1.length + (n2 - (n1 + m1)) + m2) = V.drop (n2 + m2) := by
    rw [List.drop_append, List.drop_of_length_le (by rw [List.length_append, l1]; omega), List.nil_append, List.drop_drop, List.length_append, l1, show n1 + m1 + (n1 + P1.length + (n2 - (n1 + m1)) + m2 - (n1 + P1.length)) = n2 + m2 by omega]
  have e3 : (V.take n2 ++ P2 ++ V.drop (n2 + m2)).take n1 = V.take n1 := by
    rw [List.append_assoc, List.take_append_of_le_length (by rw [l2]; omega), List.take_take, Nat.min_eq_left (by omega)]
  have e4 : (V.take n2 ++ P2 ++ V.drop (n2 + m2)).drop (n1 + m1) = (V.drop (n1 + m1)).take (n2 - (n1 + m1)) ++ P2 ++ V.drop (n2 + m2) := by
    rw [List.append_assoc, List.drop_append_of_le_length (by rw [l2]; omega), List.drop_take, List.append_assoc]
  rw [e1, e2, e3, e4]
  simp only [List.append_assoc]
theorem apart {d : Dr} (hv : validF d = true) {S : Sh} (h0 : 0 ≤ S.ch) {one two : Sp} (h1 : 0 ≤ one.a) (h2 : 0 ≤ one.c) (h3 : one.a + one.c < two.a) :
    (∃ A B C D, changeF d S one = some A ∧ changeF d A { two with a := two.a + (one.put.length - one.c) } = some B ∧ changeF d S two = some C ∧ changeF d C one = some D ∧ (visF B.its).map (·.t) = (visF D.its).map (·.t)) ∨
    ((∀ A, changeF d S one = some A → changeF d A { two with a := two.a + (one.put.length - one.c) } = none) ∧ ∀ C, changeF d S two = some C → changeF d C one = none) := by
  obtain ⟨v, hvv⟩ : ∃ v, v = visF S.its := ⟨_, rfl⟩
  have cA : ∀ A, changeF d S one = some A → A.ch = S.ch + 1 ∧ visF A.its = v.take one.a.toNat ++ putF (S.ch + 1) one.put ++ v.drop (one.a.toNat + one.c.toNat) := fun A hA => by
    refine ⟨?_, by rw [hvv]; exact vis_change h0 hA⟩
    unfold changeF at hA
    split at hA <;> cases hA; rfl
  have cC : ∀ C, changeF d S two = some C → C.ch = S.ch + 1 ∧ visF C.its = v.take two.a.toNat ++ putF (S.ch + 1) two.put ++ v.drop (two.a.toNat + two.c.toNat) := fun C hC => by
    refine ⟨?_, by rw [hvv]; exact vis_change h0 hC⟩
    unfold changeF at hC
    split at hC <;> cases hC; rfl
  -- the second change behind the first one is as it is ahead of it
  have iff1 : ∀ A, changeF d S one = some A → ((∃ B, changeF d A { two with a := two.a + (one.put.length - one.c) } = some B) ↔ canV d v two) := fun A hA => by
    obtain ⟨_, e⟩ := cA A hA
    have hcan := (change_can (d := d) (S := S) (x := one)).1 ⟨A, hA⟩
    rw [← hvv] at hcan
    obtain ⟨q1, q2, q3, q4, q5, q6⟩ := hcan
    have hlen : (visF A.its).length + one.c.toNat = v.length + one.put.length := by
      rw [e]
      simp only [List.length_append, List.length_take, List.length_drop, putF_len]
      omega
    rw [change_can]
    have hdr : ((visF A.its).drop (two.a + ((one.put.length : Int) - one.c)).toNat).take two.c.toNat = (v.drop two.a.toNat).take two.c.toNat := by
      rw [e, List.drop_append, List.drop_of_length_le (by simp only [List.length_append, List.length_take, putF_len]; omega), List.nil_append, List.drop_drop]
      congr 2
      simp only [List.length_append, List.length_take, putF_len]
      omega
    unfold canV
    dsimp only
    rw [hdr]
    constructor
    · rintro ⟨r1, r2, r3, r4, r5, r6⟩
      exact ⟨by omega, r2, by omega, r4, r5, r6⟩
    · rintro ⟨r1, r2, r3, r4, r5, r6⟩
      exact ⟨by omega, r2, by omega, r4, r5, r6⟩
  have iff2 : ∀ C, changeF d S two = some C → ((∃ D, changeF d C one = some D) ↔ canV d v one) := fun C hC => by
    obtain ⟨_, e⟩ := cC C hC
    have hcan := (change_can (d := d) (S := S) (x := two)).1 ⟨C, hC⟩
    rw [← hvv] at hcan
    obtain ⟨q1, q2, q3, q4, q5, q6⟩ := hcan
    have hlen : (visF C.its).length + two.c.toNat = v.length + two.put.length := by
      rw [e]
      simp only [List.length_append, List.length_take, List.length_drop, putF_len]
      omega
    rw [change_can]
    have hdr : ((visF C.its).drop one.a.toNat).take one.c.toNat = (v.drop one.a.toNat).take one.c.toNat := by
      rw [e, List.append_assoc, List.drop_append_of_le_length (by rw [List.length_take]; omega), List.take_append_of_le_length (by rw [List.length_drop, List.length_take]; omega), List.drop_take, List.take_take, Nat.min_eq_left (by omega)]
    unfold canV
    rw [hdr]
    constructor
    · rintro ⟨r1, r2, r3, r4, r5, r6⟩
      exact ⟨r1, r2, by omega, r4, r5, r6⟩
    · rintro ⟨r1, r2, r3, r4, r5, r6⟩
      refine ⟨r1, r2, ?_, r4, r5, r6⟩
      have : two.a.toNat ≤ v.length := by omega
      have h5 : (two.put.length : Int) ≥ 0 := by omega
      have h6 : (visF C.its).length ≥ two.a.toNat := by
        rw [e]; simp only [List.length_append, List.length_take]; omega
      omega
  have can1 := change_can (d := d) (S := S) (x := one)
  have can2 := change_can (d := d) (S := S) (x := two)
  rw [← hvv] at can1 can2
  by_cases p1 : canV d v one
  · by_cases p2 : canV d v two
    · left
      obtain ⟨A, hA⟩ := can1.2 p1
      obtain ⟨C, hC⟩ := can2.2 p2
      obtain ⟨B, hB⟩ := (iff1 A hA).2 p2
      obtain ⟨D, hD⟩ := (iff2 C hC).2 p1
      refine ⟨A, B, C, D, hA, hB, hC, hD, ?_⟩
      obtain ⟨a1, a2⟩ := cA A hA
      obtain ⟨c1, c2⟩ := cC C hC
      have b2 := vis_change (by omega : 0 ≤ A.ch) hB
      have d2 := vis_change (by omega : 0 ≤ C.ch) hD
      obtain ⟨q1, q2, q3, q4, q5, q6⟩ := p1
      obtain ⟨r1, r2, r3, r4, r5, r6⟩ := p2
      rw [b2, d2, a2, c2]
      simp only [List.map_append, List.map_take, List.map_drop, putF_t]
      rw [show (two.a + ((one.put.length : Int) - one.c)).toNat = one.a.toNat + one.put.length + (two.a.toNat - (one.a.toNat + one.c.toNat)) by omega]
      exact apart_list (n1 := one.a.toNat) (m1 := one.c.toNat) (n2 := two.a.toNat) (m2 := two.c.toNat) (v.map (·.t)) one.put two.put (by omega) (by rw [List.length_map]; omega)
    · right
      refine ⟨fun A hA => ?_, fun C hC => absurd (can2.1 ⟨C, hC⟩) p2⟩
      cases hB : changeF d A { two with a := two.a + (one.put.length - one.c) } with
      | none => rfl
      | some B => exact absurd ((iff1 A hA).1 ⟨B, hB⟩) p2
  · right
    refine ⟨fun A hA => absurd (can1.1 ⟨A, hA⟩) p1, fun C hC => ?_⟩
    cases hD : changeF d C one with
    | none => rfl
    | some D => exact absurd ((iff2 C hC).1 ⟨D, hD⟩) p1
end Go.Proofs.YtfppbjfbghaclaaGreat

namespace Go.Proofs.YtfppbjfbghaclaaGreat
open Go.Pal Go.RowKit
set_option maxRecDepth 100000
theorem play2 {d : Dr} {S : Sh} {x y : Sp} (hx : x.u = 0) (hy : y.u = 0) (i : Nat) : playF d S [x, y] i = match changeF d S x with
    | none => .inl i
    | some A => match changeF d A y with
      | none => .inl (i + 1)
      | some B => .inr B := by
  simp only [playF, stepF, hx, hy, if_true]
  cases changeF d S x with
  | none => rfl
  | some A =>
    dsimp only
    cases changeF d A y <;> rfl
theorem apart_end {d : Dr} {steps : List Sp} {S : Sh} (hS : endF d steps = .ok S) (hl : steps.length ≤ 78) {one two : Sp} (u1 : one.u = 0) (u2 : two.u = 0) (h1 : 0 ≤ one.a) (h2 : 0 ≤ one.c) (h3 : one.a + one.c < two.a) :
    (∃ B D, endF d (steps ++ [one, { two with a := two.a + (one.put.length - one.c) }]) = .ok B ∧ endF d (steps ++ [two, one]) = .ok D ∧ (shownF B).map (·.t) = (shownF D).map (·.t)) ∨
    ∃ k k', endF d (steps ++ [one, { two with a := two.a + (one.put.length - one.c) }]) = .fail k ∧ endF d (steps ++ [two, one]) = .fail k' := by
  obtain ⟨hv, _, _⟩ := endF_ok hS
  have e1 := endF_app (more := [one, { two with a := two.a + (one.put.length - one.c) }]) hS (by show _ + 2 ≤ 80; omega)
  have e2 := endF_app (more := [two, one]) hS (by show _ + 2 ≤ 80; omega)
  rw [play2 (x := one) (y := { two with a := two.a + (one.put.length - one.c) }) u1 u2] at e1
  rw [play2 u2 u1] at e2
  rcases apart hv (rch_end hS).pos.1 h1 h2 h3 with ⟨A, B, C, D, hA, hB, hC, hD, ht⟩ | ⟨q1, q2⟩
  · left
    rw [e1, e2]
    refine ⟨B, D, by rw [hA]; dsimp only; rw [hB], by rw [hC]; dsimp only; rw [hD], ?_⟩
    rw [shown_vis, shown_vis, List.map_map, List.map_map]
    exact ht
  · right
    have f1 : ∃ k, endF d (steps ++ [one, { two with a := two.a + (one.put.length - one.c) }]) = .fail k := by
      rw [e1]
      cases hA : changeF d S one with
      | none => exact ⟨_, rfl⟩
      | some A => dsimp only; rw [q1 A hA]; exact ⟨_, rfl⟩
    have f2 : ∃ k, endF d (steps ++ [two, one]) = .fail k := by
      rw [e2]
      cases hC : changeF d S two with
      | none => exact ⟨_, rfl⟩
      | some C => dsimp only; rw [q2 C hC]; exact ⟨_, rfl⟩
    obtain ⟨k, f1⟩ := f1
    obtain ⟨k', f2⟩ := f2
    exact ⟨k, k', f1, f2⟩
theorem sps_two {G : Hp} {a : Option Addr} {n c : Nat} {vs us ws : List Value} {l : List Sp} {x y : Sp} (hl : l.length = n) (hp : PubRow G a (n + 2) c (vs ++ (us ++ ws))) (hv : vs.length = l.length * 4) (hvs : ∀ i (h : i < l.length), ((vs.drop (i * 4)).take 4).length = 4 ∧ SpC G ((vs.drop (i * 4)).take 4) l[i]) (hu : us.length = 4) (hx : SpC G us x) (hw : ws.length = 4) (hy : SpC G ws y) (hb : n ≤ 1000) : spsRd.R G (.slice a (n + 2) c) (l ++ [x, y]) := by
  have h1 := spv_snoc hv hvs hu hx
  have h2 := spv_snoc (l := l ++ [x]) (by rw [List.length_append, List.length_append, hv, hu]; simp; omega) h1 hw hy
  rw [List.append_assoc, List.append_assoc] at h2
  exact ⟨_, _, _, rfl, SlR.ofPub hp (by simp [hl]) h2, by unfold maxLen; omega⟩
theorem shown_len {d : Dr} {steps : List Sp} {S : Sh} (h : endF d steps = .ok S) : (shownF S).length ≤ 1000 := by
  have h1 := (endF_small h).1
  rw [shown_vis, List.length_map, visF]
  exact Nat.le_trans (List.length_filter_le _ _) (by omega)
set_option maxHeartbeats 8000000 in
theorem law6 : Sound Tryz.prog 6 id (gsca (args4 duRd suRd sp1Rd sp1Rd fun _ _ _ _ => True) fun _ v => v = .bool true) := by
  refine comp6.gsca (lawT (Tab.cons 28 _ short28 body28 (Tab.cons 29 _ strings29 body29 (Tab.cons 30 _ read30 body30 (Tab.nil _))))) (fun args G s h => ?_) (fun args G x h => ?_)
  · obtain ⟨u, v, w, z, rfl, _⟩ := h; simp
  · obtain ⟨d, steps, one, two⟩ := x
    obtain ⟨_, _, _, _, rfl, hdu, hsu, ⟨_, rfl, ⟨pv1, rfl, hput1⟩⟩, ⟨_, rfl, ⟨pv2, rfl, hput2⟩⟩, _⟩ := h
    dsimp only at hdu hsu hput1 hput2
    obtain ⟨w, k, rfl, hw, hk⟩ := id hdu
    obtain ⟨wa, wn, wc, rfl, hwl, _⟩ := id hw
    obtain ⟨ka, kn, kc, rfl, hkl, _⟩ := id hk
    obtain ⟨a, n, c, rfl, hst, hn⟩ := id hsu
    obtain ⟨pa, pn, pc, rfl, hpl, hpn⟩ := id hput1
    obtain ⟨ra, rn, rc, rfl, hrl, hrn⟩ := id hput2
    have hlen := hst.len
    have hplen := hpl.len
    dsimp only
    (conv => whnf)
    refine IteP.mk (fun h78 => W.mk ?_) (fun h78 => W.mk ?_) <;> (conv => whnf)
    · (refine ScaP.g okU (G := fun _ => none) (x := ()) rfl (fun v hv => W.mk ?_); subst hv; (conv => whnf); refine ForkP.mk (fun _ => W.mk ?_) (fun h => by cases h); (conv => whnf); exact FinP.mk rfl)
    refine ScaP.g (ok2 duRd suRd fun _ _ => True) (x := (d, steps)) ⟨_, _, rfl, hdu, hsu, trivial⟩ (fun v hv => W.mk ?_)
    subst hv
    dsimp only
    (conv => whnf)
    refine ForkP.mk (fun ht => W.mk ?_) (fun ht => W.mk ?_) <;> (conv => whnf)
    rotate_left
    · (refine ScaP.g okU (G := fun _ => none) (x := ()) rfl (fun v hv => W.mk ?_); subst hv; (conv => whnf); refine ForkP.mk (fun _ => W.mk ?_) (fun h => by cases h); (conv => whnf); exact FinP.mk rfl)
    refine ScaP.g (ok1 ⟨SlU strE, SlU.uniq, SlU.grow⟩ fun _ => True) (x := one.put) ⟨_, rfl, hput1, trivial⟩ (fun v hv => W.mk ?_)
    subst hv
    (conv => whnf)
    refine ForkP.mk (fun hsh => W.mk ?_) (fun hsh => W.mk ?_) <;> (conv => whnf)
    rotate_left
    · (refine ScaP.g okU (G := fun _ => none) (x := ()) rfl (fun v hv => W.mk ?_); subst hv; (conv => whnf); refine ForkP.mk (fun _ => W.mk ?_) (fun h => by cases h); (conv => whnf); exact FinP.mk rfl)
    refine ScaP.g (ok1 ⟨SlU strE, SlU.uniq, SlU.grow⟩ fun _ => True) (x := two.put) ⟨_, rfl, hput2, trivial⟩ (fun v hv => W.mk ?_)
    subst hv
    (conv => whnf)
    refine ForkP.mk (fun hsh2 => W.mk ?_) (fun hsh2 => W.mk ?_) <;> (conv => whnf)
    rotate_left
    · (refine ScaP.g okU (G := fun _ => none) (x := ()) rfl (fun v hv => W.mk ?_); subst hv; (conv => whnf); refine ForkP.mk (fun _ => W.mk ?_) (fun h => by cases h); (conv => whnf); exact FinP.mk rfl)
    obtain ⟨hthin, S, hS⟩ := ready_iff.1 ht
    obtain ⟨t1, t2, t3, t4, t5⟩ := thin_iff.1 hthin
    obtain ⟨s1, s2⟩ := short_iff.1 hsh
    obtain ⟨s3, s4⟩ := short_iff.1 hsh2
    have hdr := thin_dr hthin hdu
    have hsr := thin_sps hthin hsu
    obtain ⟨_, _, _, e, hsc, _⟩ := id hsr
    cases e
    refine IteP.mk (fun u1 => W.mk ?_) (fun u1 => W.mk ?_) <;> (conv => whnf)
    rotate_left
    · (refine ScaP.g okU (G := fun _ => none) (x := ()) rfl (fun v hv => W.mk ?_); subst hv; (conv => whnf); refine ForkP.mk (fun _ => W.mk ?_) (fun h => by cases h); (conv => whnf); exact FinP.mk rfl)
    refine IteP.mk (fun u2 => W.mk ?_) (fun u2 => W.mk ?_) <;> (conv => whnf)
    rotate_left
    · (refine ScaP.g okU (G := fun _ => none) (x := ()) rfl (fun v hv => W.mk ?_); subst hv; (conv => whnf); refine ForkP.mk (fun _ => W.mk ?_) (fun h => by cases h); (conv => whnf); exact FinP.mk rfl)
    refine IteP.mk (fun _ => W.mk ?_) (fun _ => W.mk ?_) <;> (conv => whnf)
    · (refine ScaP.g okU (G := fun _ => none) (x := ()) rfl (fun v hv => W.mk ?_); subst hv; (conv => whnf); refine ForkP.mk (fun _ => W.mk ?_) (fun h => by cases h); (conv => whnf); exact FinP.mk rfl)
    refine IteP.mk (fun _ => W.mk ?_) (fun _ => W.mk ?_) <;> (conv => whnf)
    · (refine ScaP.g okU (G := fun _ => none) (x := ()) rfl (fun v hv => W.mk ?_); subst hv; (conv => whnf); refine ForkP.mk (fun _ => W.mk ?_) (fun h => by cases h); (conv => whnf); exact FinP.mk rfl)
    refine IteP.mk (fun _ => W.mk ?_) (fun _ => W.mk ?_) <;> (conv => whnf)
    · (refine ScaP.g okU (G := fun _ => none) (x := ()) rfl (fun v hv => W.mk ?_); subst hv; (conv => whnf); refine ForkP.mk (fun _ => W.mk ?_) (fun h => by cases h); (conv => whnf); exact FinP.mk rfl)
    refine IteP.mk (fun _ => W.mk ?_) (fun _ => W.mk ?_) <;> (conv => whnf)
    · (refine ScaP.g okU (G := fun _ => none) (x := ()) rfl (fun v hv => W.mk ?_); subst hv; (conv => whnf); refine ForkP.mk (fun _ => W.mk ?_) (fun h => by cases h); (conv => whnf); exact FinP.mk rfl)
    refine IteP.mk (fun _ => W.mk ?_) (fun _ => W.mk ?_) <;> (conv => whnf)
    · (refine ScaP.g okU (G := fun _ => none) (x := ()) rfl (fun v hv => W.mk ?_); subst hv; (conv => whnf); refine ForkP.mk (fun _ => W.mk ?_) (fun h => by cases h); (conv => whnf); exact FinP.mk rfl)
    refine IteP.mk (fun _ => W.mk ?_) (fun _ => W.mk ?_) <;> (conv => whnf)
    · (refine ScaP.g okU (G := fun _ => none) (x := ()) rfl (fun v hv => W.mk ?_); subst hv; (conv => whnf); refine ForkP.mk (fun _ => W.mk ?_) (fun h => by cases h); (conv => whnf); exact FinP.mk rfl)
    repeat' (refine ob ?_ ?_; (first | trivial | omega | (simp only [inR]; omega) | exact ble (by rfl) | exact SlR.some ‹_› (by omega)); (conv => whnf))
    refine IteP.mk (fun hb => W.mk ?_) (fun hb => W.mk ?_) <;> (conv => whnf)
    · (refine ScaP.g okU (G := fun _ => none) (x := ()) rfl (fun v hv => W.mk ?_); subst hv; (conv => whnf); refine ForkP.mk (fun _ => W.mk ?_) (fun h => by cases h); (conv => whnf); exact FinP.mk rfl)
    repeat' (refine ob ?_ ?_; (first | trivial | omega | (simp only [inR]; omega) | exact ble (by rfl) | exact SlR.some ‹_› (by omega)); (conv => whnf))
    refine DrawP.mk (monoT_cons rfl (monoP_grel (ok1 _ _)) (monoT_cons rfl (monoP_grel (ok2 _ _ _)) monoT_nil)) rfl (W.mk ?_)
    (conv => whnf)
    obtain ⟨vs, v1, v2, v3, v4⟩ := raw_cells (R := SpC G) (fun cs x h => h.one) hsc.at_
    have hp1 : SlV strE G (.slice pa pn pc) one.put := hput1.v (by omega)
    have hp2 : SlV strE G (.slice ra rn rc) two.put := hput2.v (by omega)
    obtain ⟨lt, hlt⟩ : ∃ lt : Sp, lt = { two with a := two.a + (one.put.length - one.c) } := ⟨_, rfl⟩
    have cone : SpC G [I one.u, I one.a, I one.c, .slice pa pn pc] one := ⟨_, rfl, hp1⟩
    have ctwo : SpC G [I two.u, I two.a, I two.c, .slice ra rn rc] two := ⟨_, rfl, hp2⟩
    have clt : SpC G [I two.u, I (two.a + ((pn : Int) - one.c)), I two.c, .slice ra rn rc] lt := ⟨_, by rw [hlt, hplen], by rw [hlt]; exact hp2⟩
    have hff : ∀ {x y : Sp}, x.put.length ≤ 6 → (∀ s ∈ x.put, s.size ≤ 40) → y.put.length ≤ 6 → (∀ s ∈ y.put, s.size ≤ 40) → FineS (steps ++ [x, y]) := fun {x y} a1 a2 a3 a4 z hz => by
      rcases List.mem_append.1 hz with hz | hz
      · exact thin_fine hthin z hz
      · simp only [List.mem_cons, List.not_mem_nil, or_false] at hz
        rcases hz with rfl | rfl
        · exact ⟨by omega, fun s hs => by have := a2 s hs; omega⟩
        · exact ⟨by omega, fun s hs => by have := a4 s hs; omega⟩
    rcases apart_end hS (by omega) u1 u2 (by omega) (by omega) (show one.a + one.c < two.a by omega) with ⟨B, D, e1, e2, htx⟩ | ⟨k1, k2, e1, e2⟩
    all_goals rw [← hlt] at e1
    · refine RelP.g (ok1 drRd fun d => d.ws.length ≤ 100000 ∧ d.ks.length ≤ 100000) (x := d) ⟨_, rfl, drRd.grow (Grow.refl G) hdr, by omega, by omega⟩ (Grow.refl _) (fun v G1A hg1A hq1 => W.mk ?_)
      obtain ⟨_, _, rfl, ⟨_, _, _, rfl, _, _⟩, ⟨_, _, _, rfl, _, _⟩⟩ := id hq1
      (conv => whnf)
      repeat' (refine ob ?_ ?_; (first | trivial | omega | (simp only [inR]; omega) | exact ble (by rfl) | exact SlR.some ‹_› (by omega)); (conv => whnf))
      refine OblP.mk (fun h => hsc.some h) (W.mk ?_)
      (conv => whnf)
      refine RdP.at (v2.grow (Grow.trans (Grow.refl G) hg1A)) (by rw [v1, hlen]) (W.mk ?_)
      (conv => whnf)
      refine OblP.mk v3 (W.mk ?_)
      (conv => whnf)
      refine OblP.mk rfl (W.mk ?_)
      (conv => whnf)
      refine OblP.mk (by omega) (W.mk ?_)
      (conv => whnf)
      refine OblP.mk rfl (W.mk ?_)
      (conv => whnf)
      refine OblP.mk rfl (W.mk ?_)
      (conv => whnf)
      refine OblP.mk (by omega) (W.mk ?_)
      (conv => whnf)
      refine PubP.mk (fun ga gc G2A hg2A hp2 => W.mk ?_)
      have hg12A := Grow.trans (Grow.refl G) (Grow.trans hg1A hg2A)
      have hsp : spsRd.R G2A (.slice ga (0 + n + 2) gc) (steps ++ [one, lt]) := by
        have h0 : 0 + n = n := Nat.zero_add n
        rw [h0] at hp2 ⊢
        exact sps_two (us := ([I one.u, I one.a, I one.c, .slice pa pn pc])) (ws := ([I two.u, I (two.a + ((pn : Int) - one.c)), I two.c, .slice ra rn rc])) hlen hp2 v1 (fun i hi => ⟨(v4 i hi).1, SpC.grow _ _ hg12A (v4 i hi).2⟩) rfl (SpC.grow _ _ hg12A cone) rfl (SpC.grow _ _ hg12A clt) (by omega)
      (conv => whnf)
      refine FnvP.mk ⟨_, SoundFn.of body18 (Sound.bare steps18), W.mk ?_⟩
      (conv => whnf)
      refine RelP.g (ok1 spsRd fun l => l.length ≤ 100000 ∧ FineS l) (x := steps ++ [one, lt]) ⟨_, rfl, hsp, by show (steps ++ [one, lt]).length ≤ _; rw [List.length_append]; simp; omega, (hff s2 s1 (by rw [hlt]; exact s4) (by rw [hlt]; exact s3))⟩ (Grow.refl _) (fun v G3A hg3A hq3 => W.mk ?_)
      obtain ⟨_, _, _, rfl, _, _⟩ := id hq3
      (conv => whnf)
      refine RelP.g (ok2 drRd spsRd fun _ _ => True) (x := (d, steps ++ [one, lt])) ⟨_, _, rfl, drRd.grow (hg2A.trans hg3A) hq1, hq3, trivial⟩ (Grow.refl _) (fun v G4A hg4A hqA => W.mk ?_)
      unfold showR at hqA
      dsimp only at hqA
      have hG4A := hg12A.trans (hg3A.trans hg4A)
      rw [e1] at hqA
      obtain ⟨xa, xb, rfl, hx1, ⟨_, _, _, rfl, _, _⟩⟩ := hqA
      obtain ⟨_, _, _, rfl, _, _⟩ := id hx1
      (conv => whnf)
      refine DrawP.mk (monoT_cons rfl (monoP_grel (ok1 _ _)) (monoT_cons rfl (monoP_grel (ok2 _ _ _)) monoT_nil)) rfl (W.mk ?_)
      (conv => whnf)
      refine RelP.g (ok1 drRd fun d => d.ws.length ≤ 100000 ∧ d.ks.length ≤ 100000) (x := d) ⟨_, rfl, drRd.grow hG4A hdr, by omega, by omega⟩ (Grow.refl _) (fun v G1B hg1B hq1 => W.mk ?_)
      obtain ⟨_, _, rfl, ⟨_, _, _, rfl, _, _⟩, ⟨_, _, _, rfl, _, _⟩⟩ := id hq1
      (conv => whnf)
      repeat' (refine ob ?_ ?_; (first | trivial | omega | (simp only [inR]; omega) | exact ble (by rfl) | exact SlR.some ‹_› (by omega)); (conv => whnf))
      refine OblP.mk (fun h => hsc.some h) (W.mk ?_)
      (conv => whnf)
      refine RdP.at (v2.grow (Grow.trans hG4A hg1B)) (by rw [v1, hlen]) (W.mk ?_)
      (conv => whnf)
      refine OblP.mk v3 (W.mk ?_)
      (conv => whnf)
      refine OblP.mk rfl (W.mk ?_)
      (conv => whnf)
      refine OblP.mk (by omega) (W.mk ?_)
      (conv => whnf)
      refine OblP.mk rfl (W.mk ?_)
      (conv => whnf)
      refine OblP.mk rfl (W.mk ?_)
      (conv => whnf)
      refine OblP.mk (by omega) (W.mk ?_)
      (conv => whnf)
      refine PubP.mk (fun ga gc G2B hg2B hp2 => W.mk ?_)
      have hg12B := Grow.trans hG4A (Grow.trans hg1B hg2B)
      have hsp : spsRd.R G2B (.slice ga (0 + n + 2) gc) (steps ++ [two, one]) := by
        have h0 : 0 + n = n := Nat.zero_add n
        rw [h0] at hp2 ⊢
        exact sps_two (us := ([I two.u, I two.a, I two.c, .slice ra rn rc])) (ws := ([I one.u, I one.a, I one.c, .slice pa pn pc])) hlen hp2 v1 (fun i hi => ⟨(v4 i hi).1, SpC.grow _ _ hg12B (v4 i hi).2⟩) rfl (SpC.grow _ _ hg12B ctwo) rfl (SpC.grow _ _ hg12B cone) (by omega)
      (conv => whnf)
      refine FnvP.mk ⟨_, SoundFn.of body18 (Sound.bare steps18), W.mk ?_⟩
      (conv => whnf)
      refine RelP.g (ok1 spsRd fun l => l.length ≤ 100000 ∧ FineS l) (x := steps ++ [two, one]) ⟨_, rfl, hsp, by show (steps ++ [two, one]).length ≤ _; rw [List.length_append]; simp; omega, (hff s4 s3 s2 s1)⟩ (Grow.refl _) (fun v G3B hg3B hq3 => W.mk ?_)
      obtain ⟨_, _, _, rfl, _, _⟩ := id hq3
      (conv => whnf)
      refine RelP.g (ok2 drRd spsRd fun _ _ => True) (x := (d, steps ++ [two, one])) ⟨_, _, rfl, drRd.grow (hg2B.trans hg3B) hq1, hq3, trivial⟩ (Grow.refl _) (fun v G4B hg4B hqB => W.mk ?_)
      unfold showR at hqB
      dsimp only at hqB
      have hG4B := hg12B.trans (hg3B.trans hg4B)
      rw [e2] at hqB
      obtain ⟨ya, yb, rfl, hy1, ⟨_, _, _, rfl, _, _⟩⟩ := hqB
      obtain ⟨_, _, _, rfl, _, _⟩ := id hy1
      (conv => whnf)
      (refine IteP.mk (fun _ => W.mk ?_) (fun _ => W.mk ?_) <;> first | (exfalso; omega) | (conv => whnf))
      (refine IteP.mk (fun _ => W.mk ?_) (fun _ => W.mk ?_) <;> first | (exfalso; omega) | (conv => whnf))
      have l1 := shown_len e1
      have l2 := shown_len e2
      refine RelP.g (ok1 (slRd viE) fun l => l.length ≤ 100000) (x := (shownF B)) ⟨_, rfl, (hx1.grow (Grow.trans hg1B (Grow.trans hg2B (Grow.trans hg3B hg4B)))), (by omega)⟩ (Grow.refl _) (fun v G7 hg7 hq7 => W.mk ?_)
      obtain ⟨_, _, _, rfl, _, _⟩ := id hq7
      (conv => whnf)
      refine RelP.g (ok1 (slRd viE) fun l => l.length ≤ 100000) (x := (shownF D)) ⟨_, rfl, SlV.grow hg7 hy1, (by omega)⟩ (Grow.refl _) (fun v G8 hg8 hq8 => W.mk ?_)
      obtain ⟨_, _, _, rfl, _, _⟩ := id hq8
      (conv => whnf)
      refine ScaP.g (ok2 (slRd strE) (slRd strE) fun _ _ => True) (x := (List.map Vi.t (shownF B), List.map Vi.t (shownF D))) ⟨_, _, rfl, hq7.grow hg8, hq8, trivial⟩ (fun v hv2 => W.mk ?_)
      have hv2 : v = .bool true := hv2.trans (congrArg Value.bool (decide_eq_true htx))
      subst hv2
      (conv => whnf)
      refine ForkP.mk (fun _ => W.mk ?_) (fun h => by cases h)
      (conv => whnf)
      (refine ScaP.g okU (G := fun _ => none) (x := ()) rfl (fun v hv => W.mk ?_); subst hv; (conv => whnf); refine ForkP.mk (fun _ => W.mk ?_) (fun h => by cases h); (conv => whnf); exact FinP.mk rfl)
    · refine RelP.g (ok1 drRd fun d => d.ws.length ≤ 100000 ∧ d.ks.length ≤ 100000) (x := d) ⟨_, rfl, drRd.grow (Grow.refl G) hdr, by omega, by omega⟩ (Grow.refl _) (fun v G1A hg1A hq1 => W.mk ?_)
      obtain ⟨_, _, rfl, ⟨_, _, _, rfl, _, _⟩, ⟨_, _, _, rfl, _, _⟩⟩ := id hq1
      (conv => whnf)
      repeat' (refine ob ?_ ?_; (first | trivial | omega | (simp only [inR]; omega) | exact ble (by rfl) | exact SlR.some ‹_› (by omega)); (conv => whnf))
      refine OblP.mk (fun h => hsc.some h) (W.mk ?_)
      (conv => whnf)
      refine RdP.at (v2.grow (Grow.trans (Grow.refl G) hg1A)) (by rw [v1, hlen]) (W.mk ?_)
      (conv => whnf)
      refine OblP.mk v3 (W.mk ?_)
      (conv => whnf)
      refine OblP.mk rfl (W.mk ?_)
      (conv => whnf)
      refine OblP.mk (by omega) (W.mk ?_)
      (conv => whnf)
      refine OblP.mk rfl (W.mk ?_)
      (conv => whnf)
      refine OblP.mk rfl (W.mk ?_)
      (conv => whnf)
      refine OblP.mk (by omega) (W.mk ?_)
      (conv => whnf)
      refine PubP.mk (fun ga gc G2A hg2A hp2 => W.mk ?_)
      have hg12A := Grow.trans (Grow.refl G) (Grow.trans hg1A hg2A)
      have hsp : spsRd.R G2A (.slice ga (0 + n + 2) gc) (steps ++ [one, lt]) := by
        have h0 : 0 + n = n := Nat.zero_add n
        rw [h0] at hp2 ⊢
        exact sps_two (us := ([I one.u, I one.a, I one.c, .slice pa pn pc])) (ws := ([I two.u, I (two.a + ((pn : Int) - one.c)), I two.c, .slice ra rn rc])) hlen hp2 v1 (fun i hi => ⟨(v4 i hi).1, SpC.grow _ _ hg12A (v4 i hi).2⟩) rfl (SpC.grow _ _ hg12A cone) rfl (SpC.grow _ _ hg12A clt) (by omega)
      (conv => whnf)
      refine FnvP.mk ⟨_, SoundFn.of body18 (Sound.bare steps18), W.mk ?_⟩
      (conv => whnf)
      refine RelP.g (ok1 spsRd fun l => l.length ≤ 100000 ∧ FineS l) (x := steps ++ [one, lt]) ⟨_, rfl, hsp, by show (steps ++ [one, lt]).length ≤ _; rw [List.length_append]; simp; omega, (hff s2 s1 (by rw [hlt]; exact s4) (by rw [hlt]; exact s3))⟩ (Grow.refl _) (fun v G3A hg3A hq3 => W.mk ?_)
      obtain ⟨_, _, _, rfl, _, _⟩ := id hq3
      (conv => whnf)
      refine RelP.g (ok2 drRd spsRd fun _ _ => True) (x := (d, steps ++ [one, lt])) ⟨_, _, rfl, drRd.grow (hg2A.trans hg3A) hq1, hq3, trivial⟩ (Grow.refl _) (fun v G4A hg4A hqA => W.mk ?_)
      unfold showR at hqA
      dsimp only at hqA
      have hG4A := hg12A.trans (hg3A.trans hg4A)
      rw [e1] at hqA
      subst hqA
      (conv => whnf)
      refine DrawP.mk (monoT_cons rfl (monoP_grel (ok1 _ _)) (monoT_cons rfl (monoP_grel (ok2 _ _ _)) monoT_nil)) rfl (W.mk ?_)
      (conv => whnf)
      refine RelP.g (ok1 drRd fun d => d.ws.length ≤ 100000 ∧ d.ks.length ≤ 100000) (x := d) ⟨_, rfl, drRd.grow hG4A hdr, by omega, by omega⟩ (Grow.refl _) (fun v G1B hg1B hq1 => W.mk ?_)
      obtain ⟨_, _, rfl, ⟨_, _, _, rfl, _, _⟩, ⟨_, _, _, rfl, _, _⟩⟩ := id hq1
      (conv => whnf)
      repeat' (refine ob ?_ ?_; (first | trivial | omega | (simp only [inR]; omega) | exact ble (by rfl) | exact SlR.some ‹_› (by omega)); (conv => whnf))
      refine OblP.mk (fun h => hsc.some h) (W.mk ?_)
      (conv => whnf)
      refine RdP.at (v2.grow (Grow.trans hG4A hg1B)) (by rw [v1, hlen]) (W.mk ?_)
      (conv => whnf)
      refine OblP.mk v3 (W.mk ?_)
      (conv => whnf)
      refine OblP.mk rfl (W.mk ?_)
      (conv => whnf)
      refine OblP.mk (by omega) (W.mk ?_)
      (conv => whnf)
      refine OblP.mk rfl (W.mk ?_)
      (conv => whnf)
      refine OblP.mk rfl (W.mk ?_)
      (conv => whnf)
      refine OblP.mk (by omega) (W.mk ?_)
      (conv => whnf)
      refine PubP.mk (fun ga gc G2B hg2B hp2 => W.mk ?_)
      have hg12B := Grow.trans hG4A (Grow.trans hg1B hg2B)
      have hsp : spsRd.R G2B (.slice ga (0 + n + 2) gc) (steps ++ [two, one]) := by
        have h0 : 0 + n = n := Nat.zero_add n
        rw [h0] at hp2 ⊢
        exact sps_two (us := ([I two.u, I two.a, I two.c, .slice ra rn rc])) (ws := ([I one.u, I one.a, I one.c, .slice pa pn pc])) hlen hp2 v1 (fun i hi => ⟨(v4 i hi).1, SpC.grow _ _ hg12B (v4 i hi).2⟩) rfl (SpC.grow _ _ hg12B ctwo) rfl (SpC.grow _ _ hg12B cone) (by omega)
      (conv => whnf)
      refine FnvP.mk ⟨_, SoundFn.of body18 (Sound.bare steps18), W.mk ?_⟩
      (conv => whnf)
      refine RelP.g (ok1 spsRd fun l => l.length ≤ 100000 ∧ FineS l) (x := steps ++ [two, one]) ⟨_, rfl, hsp, by show (steps ++ [two, one]).length ≤ _; rw [List.length_append]; simp; omega, (hff s4 s3 s2 s1)⟩ (Grow.refl _) (fun v G3B hg3B hq3 => W.mk ?_)
      obtain ⟨_, _, _, rfl, _, _⟩ := id hq3
      (conv => whnf)
      refine RelP.g (ok2 drRd spsRd fun _ _ => True) (x := (d, steps ++ [two, one])) ⟨_, _, rfl, drRd.grow (hg2B.trans hg3B) hq1, hq3, trivial⟩ (Grow.refl _) (fun v G4B hg4B hqB => W.mk ?_)
      unfold showR at hqB
      dsimp only at hqB
      have hG4B := hg12B.trans (hg3B.trans hg4B)
      rw [e2] at hqB
      subst hqB
      (conv => whnf)
      (refine IteP.mk (fun _ => W.mk ?_) (fun _ => W.mk ?_) <;> first | (exfalso; omega) | (conv => whnf))
      (refine IteP.mk (fun _ => W.mk ?_) (fun _ => W.mk ?_) <;> first | (exfalso; omega) | (conv => whnf))
      (refine IteP.mk (fun _ => W.mk ?_) (fun _ => W.mk ?_) <;> first | (exfalso; omega) | (conv => whnf))
      refine RelP.g (ok1 (slRd viE) fun l => l.length ≤ 100000) (x := ([] : List Vi)) ⟨_, rfl, SlV.nil, (Nat.zero_le _)⟩ (Grow.refl _) (fun v G7 hg7 hq7 => W.mk ?_)
      obtain ⟨_, _, _, rfl, _, _⟩ := id hq7
      (conv => whnf)
      refine RelP.g (ok1 (slRd viE) fun l => l.length ≤ 100000) (x := ([] : List Vi)) ⟨_, rfl, SlV.grow hg7 SlV.nil, (Nat.zero_le _)⟩ (Grow.refl _) (fun v G8 hg8 hq8 => W.mk ?_)
      obtain ⟨_, _, _, rfl, _, _⟩ := id hq8
      (conv => whnf)
      refine ScaP.g (ok2 (slRd strE) (slRd strE) fun _ _ => True) (x := (List.map Vi.t ([] : List Vi), List.map Vi.t ([] : List Vi))) ⟨_, _, rfl, hq7.grow hg8, hq8, trivial⟩ (fun v hv2 => W.mk ?_)
      have hv2 : v = .bool true := hv2.trans (congrArg Value.bool (decide_eq_true rfl))
      subst hv2
      (conv => whnf)
      refine ForkP.mk (fun _ => W.mk ?_) (fun h => by cases h)
      (conv => whnf)
      (refine ScaP.g okU (G := fun _ => none) (x := ()) rfl (fun v hv => W.mk ?_); subst hv; (conv => whnf); refine ForkP.mk (fun _ => W.mk ?_) (fun h => by cases h); (conv => whnf); exact FinP.mk rfl)
end Go.Proofs.YtfppbjfbghaclaaGreat
