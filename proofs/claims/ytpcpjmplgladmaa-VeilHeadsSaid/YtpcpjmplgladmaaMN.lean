/- Layer 9: the pieces of a view and the words that are shown (plain). Layer 9: heads and their columns, one place for each (plain). -/
import Derived.Test.YtpcpjmplgladmaaMK
import Derived.Test.YtpcpjmplgladmaaML
import Derived.Test.YtpcpjmplgladmaaME
set_option linter.unusedSimpArgs false
set_option linter.unusedVariables false
namespace Go.Proofs.Ytpcpjmplgladmaa
open Go.Pal Go.RowKit
set_option maxRecDepth 100000
/-- The word after those of some pieces. -/
def nxF (l : List (Int × Pc)) : Nat := l.foldl (fun n e => if e.1 = -1 then n else e.1.toNat + 1) 0
theorem nxF_snoc (l : List (Int × Pc)) (e : Int × Pc) : nxF (l ++ [e]) = if e.1 = -1 then nxF l else e.1.toNat + 1 := by
  rw [nxF, List.foldl_append]; rfl
structure PcI (g : Rg) (i : Nat) (l : List (Int × Pc)) : Prop where
  at_ : ∀ (k : Nat) (e : Int × Pc), l[k]? = some e → e.1 = -1 ∨ ∃ j : Nat, e.1 = j ∧ j < i ∧ g.p j = false ∧ nxF (l.take k) ≤ j ∧ ∀ m, nxF (l.take k) ≤ m → m < j → g.p m = true
  gap : ∀ (k : Nat) (e e' : Int × Pc), l[k]? = some e → l[k + 1]? = some e' → e.1 = -1 → e'.1 ≠ -1
  tail : nxF l ≤ i ∧ ∀ m, nxF l ≤ m → m < i → g.p m = true
  last : ∀ (l0 : List (Int × Pc)) (e : Int × Pc), l = l0 ++ [e] → e.1 = -1 → 0 < i ∧ g.p (i - 1) = true
theorem snoc_last {α : Type} {l : List α} {k : Nat} {e : α} (h : l[k]? = some e) (hk : k + 1 = l.length) : l = l.take k ++ [e] := by
  rw [← take_snoc h, hk, List.take_length]
theorem pcI_of (g : Rg) : ∀ i, PcI g i (pcK g i)
  | 0 => ⟨fun k e h => by simp [pcK] at h, fun k e e' h => by simp [pcK] at h, ⟨Nat.le_refl _, fun m _ h => by omega⟩, fun l0 e h => by simp [pcK] at h⟩
  | i + 1 => by
    have ih := pcI_of g i
    have at1 : ∀ (t : List (Int × Pc)) (k : Nat) (e : Int × Pc), k < (pcK g i).length → (pcK g i ++ t)[k]? = some e → e.1 = -1 ∨ ∃ j : Nat, e.1 = j ∧ j < i + 1 ∧ g.p j = false ∧ nxF ((pcK g i ++ t).take k) ≤ j ∧ ∀ m, nxF ((pcK g i ++ t).take k) ≤ m → m < j → g.p m = true := fun t k e hk h => by
      rw [List.getElem?_append_left hk] at h
      rw [List.take_append_of_le_length (by omega)]
      exact (ih.at_ k e h).imp id fun ⟨j, h1, h2, h3⟩ => ⟨j, h1, by omega, h3⟩
    have lst : ∀ (e0 : Int × Pc) (k : Nat) (e : Int × Pc), ¬ k < (pcK g i).length → (pcK g i ++ [e0])[k]? = some e → k = (pcK g i).length ∧ e = e0 := fun e0 k e hk h => by
      have h2 := (List.getElem?_eq_some_iff.1 h).1
      have h2 : k = (pcK g i).length := by simp at h2; omega
      subst h2
      simp at h
      exact ⟨rfl, h.symm⟩
    have gap1 : ∀ (e0 : Int × Pc) (k : Nat) (e e' : Int × Pc), (e0.1 = -1 → ¬ (0 < i ∧ g.p (i - 1) = true)) → (pcK g i ++ [e0])[k]? = some e → (pcK g i ++ [e0])[k + 1]? = some e' → e.1 = -1 → e'.1 ≠ -1 := fun e0 k e e' h0 h1 h2 h3 => by
      have hk : k + 1 < (pcK g i ++ [e0]).length := (List.getElem?_eq_some_iff.1 h2).1
      rw [List.length_append, List.length_singleton] at hk
      rw [List.getElem?_append_left (by omega)] at h1
      by_cases hk2 : k + 1 < (pcK g i).length
      · rw [List.getElem?_append_left hk2] at h2
        exact ih.gap k e e' h1 h2 h3
      · obtain ⟨h4, rfl⟩ := lst e0 (k + 1) e' hk2 h2
        exact fun h5 => h0 h5 (ih.last _ _ (snoc_last h1 h4) h3)
    simp only [pcK]
    by_cases hp : g.p i = true
    · rw [if_pos hp]
      by_cases h2 : 0 < i ∧ g.p (i - 1) = true
      · rw [if_pos h2]
        refine ⟨fun k e h => (ih.at_ k e h).imp id fun ⟨j, h1, h2, h3⟩ => ⟨j, h1, by omega, h3⟩, ih.gap, ⟨by have := ih.tail.1; omega, fun m h1 h2 => ?_⟩, fun l0 e _ _ => ⟨by omega, by rw [Nat.add_sub_cancel]; exact hp⟩⟩
        by_cases hm : m = i
        · rw [hm]; exact hp
        · exact ih.tail.2 m h1 (by omega)
      · rw [if_neg h2]
        generalize he0 : ((-1 : Int), (⟨noText, (pcK g i).length / g.r.cols + 1⟩ : Pc)) = e0
        have h01 : e0.1 = -1 := by rw [← he0]
        have hn : nxF (pcK g i ++ [e0]) = nxF (pcK g i) := by rw [nxF_snoc, if_pos h01]
        refine ⟨fun k e h => ?_, fun k e e' => gap1 e0 k e e' fun _ => h2, ⟨by have := ih.tail.1; omega, fun m h1 h3 => ?_⟩, fun l0 e _ _ => ⟨by omega, by rw [Nat.add_sub_cancel]; exact hp⟩⟩
        · by_cases hk : k < (pcK g i).length
          · exact at1 _ k e hk h
          · exact .inl (by rw [(lst e0 k e hk h).2, h01])
        · rw [hn] at h1
          by_cases hm : m = i
          · rw [hm]; exact hp
          · exact ih.tail.2 m h1 (by omega)
    · have hpf : g.p i = false := by simpa using hp
      rw [if_neg hp]
      generalize he0 : ((i : Int), (⟨(g.r.words.getD i ⟨noText, []⟩).text, (pcK g i).length / g.r.cols + 1⟩ : Pc)) = e0
      have h01 : e0.1 = (i : Int) := by rw [← he0]
      have hne : e0.1 ≠ -1 := by omega
      have hn : nxF (pcK g i ++ [e0]) = i + 1 := by rw [nxF_snoc, if_neg hne, h01, Int.toNat_natCast]
      refine ⟨fun k e h => ?_, fun k e e' => gap1 e0 k e e' fun h => absurd h hne, ⟨by omega, fun m h1 h3 => by omega⟩, fun l0 e h h1 => ?_⟩
      · by_cases hk : k < (pcK g i).length
        · exact at1 _ k e hk h
        · obtain ⟨rfl, rfl⟩ := lst e0 k e hk h
          rw [List.take_left]
          exact .inr ⟨i, h01, by omega, hpf, ih.tail.1, ih.tail.2⟩
      · have := List.append_inj_right' h rfl
        simp at this
        rw [← this] at h1
        exact absurd h1 hne
theorem pcI_F (r : Rp) (x : Rx) : PcI (rgOf r x) r.words.length (pcF (rgOf r x)) := pcI_of _ _
end Go.Proofs.Ytpcpjmplgladmaa

namespace Go.Proofs.Ytpcpjmplgladmaa
open Go.Pal Go.RowKit
set_option maxRecDepth 100000
def vb (p : Nat → Bool) : List Value := (List.range 7000).map fun i => .bool (p i)
theorem vb_len (p : Nat → Bool) : (vb p).length = 7000 := by simp [vb]
theorem vb_at (p : Nat → Bool) {i : Nat} (h : i < 7000) : (vb p)[i]? = some (.bool (p i)) := by simp [vb, h]
theorem vb_no (p : Nat → Bool) {i : Nat} (h : ¬ i < 7000) : (vb p)[i]? = none := by
  rw [List.getElem?_eq_none_iff, vb_len]; omega
theorem mks_vb : (List.replicate 7000 [Value.bool false]).flatten = vb fun _ => false := by
  have : ∀ n, (List.replicate n [Value.bool false]).flatten = List.replicate n (Value.bool false) := fun n => by
    induction n with
    | zero => rfl
    | succ n ih => rw [List.replicate_succ, List.flatten_cons, ih, List.replicate_succ]; rfl
  rw [this]
  apply List.ext_getElem?
  intro i
  by_cases h : i < 7000
  · rw [vb_at _ h, List.getElem?_replicate, if_pos h]
  · rw [vb_no _ h, List.getElem?_replicate, if_neg h]
theorem den_newR_eq {P : Program} {hid : Nat} {Gr G : Hp} {K : SV → List (Nat × Option OB) → Hp → Prop} {n : Nat} {vs vs' : List Value} {t : TypeId} {k : Nat} {sv : SV} (e : vs = vs') (hk : Res.den P hid Gr G K (.new (.row none n vs' t k) sv)) : Res.den P hid Gr G K (.new (.row none n vs t k) sv) := by
  subst e; exact hk
/-- The places that are due. -/
def dueF (F : Cols) (i : Nat) : Bool := (F ((i / 70 : Nat) : Int)).contains ((i % 70 : Nat) : Int)
structure ColOk (F : Cols) (m : Int) : Prop where
  asc : ∀ h, (F h).Pairwise (· < ·)
  bd : ∀ h c, c ∈ F h → 1 ≤ c ∧ c ≤ m
  hd : ∀ h, F h ≠ [] → 0 ≤ h ∧ h ≤ 99
theorem addC_ok {F : Cols} {m c h : Int} (hF : ColOk F m) (hm : m ≤ c) (h1 : 1 ≤ c) (hh : 0 ≤ h ∧ h ≤ 99) : ColOk (addC c F h) c := by
  unfold addC
  split
  · exact ⟨hF.asc, fun y k hk => by have := hF.bd y k hk; omega, hF.hd⟩
  · rename_i hc
    have hc : ¬ c ∈ F h := by simpa using hc
    refine ⟨fun y => ?_, fun y k hk => ?_, fun y hy => ?_⟩
    · by_cases e : y = h
      · subst e
        simp only [if_true]
        rw [List.pairwise_append]
        refine ⟨hF.asc y, List.pairwise_singleton _ _, fun a ha b hb => ?_⟩
        simp only [List.mem_singleton] at hb
        subst hb
        have := hF.bd y a ha
        have : a ≠ b := fun e => hc (e ▸ ha)
        omega
      · simp only [if_neg e]; exact hF.asc y
    · by_cases e : y = h
      · subst e
        simp only [if_true] at hk
        rcases List.mem_append.1 hk with hk | hk
        · have := hF.bd y k hk; omega
        · simp only [List.mem_singleton] at hk; omega
      · simp only [if_neg e] at hk; have := hF.bd y k hk; omega
    · by_cases e : y = h
      · omega
      · simp only [if_neg e] at hy; exact hF.hd y hy
theorem addC_due {F : Cols} {c h : Int} (hc : 1 ≤ c ∧ c ≤ 69) (hh : 0 ≤ h ∧ h ≤ 99) (i : Nat) : dueF (addC c F h) i = (dueF F i || decide ((i : Int) = 70 * h + c)) := by
  have key : ((i / 70 : Nat) : Int) = h ∧ ((i % 70 : Nat) : Int) = c ↔ (i : Int) = 70 * h + c := by omega
  rw [Bool.eq_iff_iff]
  simp only [dueF, addC, Bool.or_eq_true, decide_eq_true_eq, ← key]
  generalize ((i / 70 : Nat) : Int) = y
  generalize ((i % 70 : Nat) : Int) = z
  split
  · rename_i hin
    constructor
    · exact .inl
    · rintro (h1 | ⟨rfl, rfl⟩)
      · exact h1
      · exact hin
  · by_cases e : y = h
    · subst e
      simp [List.mem_append]
    · simp [e]
def colsK (g : Rg) (k : Nat) : Cols := ((pcF g).take k).foldl (stepC g) fun _ => []
theorem colsK_succ (g : Rg) {k : Nat} {e : Int × Pc} (he : (pcF g)[k]? = some e) : colsK g (k + 1) = stepC g (colsK g k) e := by
  rw [colsK, take_snoc he, List.foldl_append]; rfl
theorem foldC_ok {c : Int} (h1 : 1 ≤ c) : ∀ (hs : List Int) {F : Cols} {m : Int}, ColOk F m → m ≤ c → (∀ h ∈ hs, 0 ≤ h ∧ h ≤ 99) → ColOk (hs.foldl (addC c) F) c
  | [], F, m, hF, hm, _ => ⟨hF.asc, fun y k hk => by have := hF.bd y k hk; omega, hF.hd⟩
  | h :: t, F, m, hF, hm, hh => foldC_ok h1 t (addC_ok hF hm h1 (hh h (by simp))) (Int.le_refl _) fun y hy => hh y (by simp [hy])
theorem colsK_ok {r : Rp} (hf : Fine r) (x : Rx) : ∀ k, k ≤ (pcF (rgOf r x)).length → ColOk (colsK (rgOf r x) k) ((k : Int) / r.cols + 1)
  | 0, _ => ⟨fun _ => List.Pairwise.nil, fun _ _ h => (by cases h), fun _ h => absurd rfl h⟩
  | k + 1, hk => by
    have ih := colsK_ok hf x k (by omega)
    have hc := hf.c
    have hmono : (k : Int) / r.cols ≤ ((k + 1 : Nat) : Int) / r.cols := Int.ediv_le_ediv (by omega) (by omega)
    have h0 : 0 ≤ (k : Int) / r.cols := Int.ediv_nonneg (by omega) (by omega)
    obtain ⟨e, he⟩ : ∃ e, (pcF (rgOf r x))[k]? = some e := ⟨_, List.getElem?_eq_getElem (by omega)⟩
    rw [colsK_succ _ he]
    have up : ∀ {F : Cols}, ColOk F ((k : Int) / r.cols + 1) → ColOk F (((k + 1 : Nat) : Int) / r.cols + 1) := fun h => ⟨h.asc, fun y c hy => by have := h.bd y c hy; omega, h.hd⟩
    unfold stepC
    split
    · exact up ih
    · rename_i hne
      obtain ⟨c1, _⟩ := pcK_at (rgOf r x) _ k e he
      have c1 : e.2.col = (k : Int) / r.cols + 1 := c1
      rw [c1]
      rcases (pcI_F r x).at_ k e he with h | ⟨j, h1, h2, _⟩
      · exact absurd h hne
      · have hgd : (rgOf r x).r.words.getD e.1.toNat ⟨noText, []⟩ = r.words[j] := by rw [h1]; simp [rgOf, h2]
        rw [hgd]
        exact up (foldC_ok (by omega) _ ih (Int.le_refl _) (ris_mem (hf.w _ (List.getElem_mem h2)).2.2.2.1))
theorem colsK_F (g : Rg) : colsK g (pcF g).length = colsF g := by rw [colsK, List.take_length]; rfl
/-- What is due still, when so many heads, and of the next one so many columns, are struck out. -/
def restF (F : Cols) (hds : List Int) (i k : Nat) : Cols := fun h => if h ∈ hds.take i then [] else if hds[i]? = some h then (F h).drop k else F h
theorem restF_next {F : Cols} {hds : List Int} {i : Nat} {hd : Int} (hi : hds[i]? = some hd) (hnd : hds.Nodup) : restF F hds i (F hd).length = restF F hds (i + 1) 0 := by
  funext h
  simp only [restF]
  have hmem : h ∈ hds.take (i + 1) ↔ h ∈ hds.take i ∨ h = hd := by rw [take_snoc hi]; simp
  by_cases h1 : h ∈ hds.take i
  · rw [if_pos h1, if_pos (hmem.2 (.inl h1))]
  · rw [if_neg h1]
    by_cases h2 : h = hd
    · subst h2
      rw [if_pos hi, if_pos (hmem.2 (.inr rfl)), List.drop_length]
    · rw [if_neg (fun e => h2 (by rw [hi] at e; exact (Option.some.inj e).symm)), if_neg (fun e => (hmem.1 e).elim h1 h2)]
      split <;> simp
theorem not_take {hds : List Int} {i : Nat} {hd : Int} (hi : hds[i]? = some hd) (hnd : hds.Nodup) : ¬ hd ∈ hds.take i := fun h => by
  obtain ⟨j, hj, e⟩ := List.mem_iff_getElem.1 h
  obtain ⟨i1, i2⟩ := List.getElem?_eq_some_iff.1 hi
  simp only [List.length_take] at hj
  rw [List.getElem_take] at e
  have := List.pairwise_iff_getElem.1 hnd j i (by omega) i1 (by omega)
  exact this (by rw [e, i2])
theorem restF_cur {F : Cols} {hds : List Int} {i k : Nat} {hd : Int} (hi : hds[i]? = some hd) (hnd : hds.Nodup) : restF F hds i k hd = (F hd).drop k := by
  simp only [restF]
  rw [if_neg (not_take hi hnd), if_pos hi]
theorem restF_due {F : Cols} {hds : List Int} {i k : Nat} {hd : Int} (hi : hds[i]? = some hd) (hnd : hds.Nodup) (hasc : (F hd).Pairwise (· < ·)) (hk : k < (F hd).length) (hh : 0 ≤ hd ∧ hd ≤ 99) (hc : 1 ≤ (F hd)[k] ∧ (F hd)[k] ≤ 69) (n : Nat) (hn : (n : Int) = 70 * hd + (F hd)[k]) :
    dueF (restF F hds i k) n = true ∧ ∀ j, dueF (restF F hds i (k + 1)) j = (dueF (restF F hds i k) j && !decide (j = n)) := by
  have h1 : ((n / 70 : Nat) : Int) = hd := by omega
  have h2 : ((n % 70 : Nat) : Int) = (F hd)[k] := by omega
  have hd0 := List.drop_eq_getElem_cons hk
  have hout : ¬ (F hd)[k] ∈ (F hd).drop (k + 1) := fun h => by
    have := hasc.sublist (List.drop_sublist k _)
    rw [hd0, List.pairwise_cons] at this
    have := this.1 _ h
    omega
  constructor
  · simp only [dueF, h1, h2]
    rw [restF_cur hi hnd, hd0, List.contains_cons, beq_self_eq_true, Bool.true_or]
  · intro j
    by_cases e : ((j / 70 : Nat) : Int) = hd
    · simp only [dueF, e]
      rw [restF_cur hi hnd, restF_cur hi hnd, hd0, List.contains_cons]
      by_cases e2 : j = n
      · subst e2
        rw [h2, decide_eq_true rfl, Bool.not_true, Bool.and_false, ← Bool.not_eq_true, List.contains_iff_mem]
        exact hout
      · have e3 : ((j % 70 : Nat) : Int) ≠ (F hd)[k] := fun e3 => e2 (by omega)
        rw [decide_eq_false e2, Bool.not_false, Bool.and_true, beq_eq_false_iff_ne.2 e3, Bool.false_or]
    · have e2 : j ≠ n := fun e2 => e (by rw [e2]; exact h1)
      have e3 : ¬ hds[i]? = some ((j / 70 : Nat) : Int) := fun h => e (by rw [hi] at h; exact (Option.some.inj h).symm)
      simp only [dueF, restF, decide_eq_false e2, Bool.not_false, Bool.and_true]
      by_cases hm : ((j / 70 : Nat) : Int) ∈ hds.take i
      · rw [if_pos hm, if_pos hm]
      · rw [if_neg hm, if_neg hm, if_neg e3, if_neg e3]
theorem hdsF_mem {F : Cols} {h : Int} : h ∈ hdsF F ↔ (0 ≤ h ∧ h ≤ 99) ∧ F h ≠ [] := by
  simp only [hdsF, List.mem_filter, List.mem_map, List.mem_range, Bool.not_eq_true', List.isEmpty_eq_false_iff]
  constructor
  · rintro ⟨⟨n, hn, rfl⟩, h2⟩; exact ⟨by omega, h2⟩
  · rintro ⟨h1, h2⟩; exact ⟨⟨h.toNat, by omega, by omega⟩, h2⟩
theorem hdsF_asc (F : Cols) : (hdsF F).Pairwise (· < ·) := by
  refine List.Pairwise.filter _ ?_
  rw [List.pairwise_map]
  exact List.pairwise_lt_range.imp fun h => by omega
theorem rest_none {F : Cols} (n : Nat) (hn : n < 7000) : dueF (restF F (hdsF F) (hdsF F).length 0) n = false := by
  simp only [dueF, restF, List.take_length]
  by_cases h : ((n / 70 : Nat) : Int) ∈ hdsF F
  · rw [if_pos h]; rfl
  · have : F ((n / 70 : Nat) : Int) = [] := Classical.byContradiction fun e => h (hdsF_mem.2 ⟨by omega, e⟩)
    rw [if_neg h, this]
    split <;> rfl
theorem restF_zero (F : Cols) (hds : List Int) : restF F hds 0 0 = F := by
  funext h
  simp only [restF, List.take_zero, List.not_mem_nil, if_false, List.drop_zero]
  split <;> rfl
/-- A place is filled. -/
theorem vb_set {p q : Nat → Bool} {n : Nat} {b : Bool} (hn : n < 7000) (hq : ∀ j, q j = if j = n then b else p j) : (vb p).take (n * 1) ++ [.bool b] ++ (vb p).drop (n * 1 + 1) = vb q := by
  have e : (vb p).take (n * 1) ++ [Value.bool b] ++ (vb p).drop (n * 1 + 1) = (vb p).set n (.bool b) := by
    rw [List.set_eq_take_append_cons_drop, if_pos (by rw [vb_len]; exact hn), Nat.mul_one]
    simp
  rw [e]
  apply List.ext_getElem?
  intro i
  rw [List.getElem?_set, vb_len]
  by_cases h : n = i
  · subst h
    rw [if_pos rfl, if_pos hn, vb_at q hn, hq, if_pos rfl]
  · rw [if_neg h]
    by_cases hi : i < 7000
    · rw [vb_at _ hi, vb_at _ hi, hq, if_neg fun e => h e.symm]
    · rw [vb_no _ hi, vb_no _ hi]
theorem vb_get {p : Nat → Bool} {n : Nat} {b : Bool} (hn : n < 7000) (hb : p n = b) : ((vb p).drop (n * 1)).take 1 = [.bool b] := by
  have h1 : n < (vb p).length := by rw [vb_len]; exact hn
  have h2 := vb_at p hn
  rw [List.getElem?_eq_getElem h1, Option.some.injEq] at h2
  rw [Nat.mul_one, List.drop_eq_getElem_cons h1, h2, hb]
  rfl
end Go.Proofs.Ytpcpjmplgladmaa

/- Layer 9: the law VeilHeads. -/
   namespace Go.Proofs.Ytpcpjmplgladmaa
open Go.Pal Go.RowKit
set_option maxRecDepth 100000
set_option maxHeartbeats 1000000
theorem law10 : Sound Try.prog 10 id (gsca (args2 ruRd xuRd fun _ _ => True) fun _ v => v = .bool true) := by
  refine comp10.gsca tabLw (fun args G s h => ?_) (fun args G p h => ?_)
  · obtain ⟨u, v, rfl, _⟩ := h; simp
  · obtain ⟨r, x⟩ := p
    obtain ⟨u, v, rfl, hr, hx, _⟩ := h
    dsimp only at hr hx
    obtain ⟨rw_, ro, rfl, ⟨wa, wn, wc, rfl, hwu1, hwu2⟩, ⟨oa, on, oc, rfl, hou1, hou2⟩⟩ := id hr
    obtain ⟨m, rfl, ⟨ma, mn, mc, rfl, hmu1, hmu2⟩⟩ := id hx
    try dsimp only
    (conv => whnf)
    refine ScaP.g (ok2 ruRd xuRd fun _ _ => True) (x := (r, x)) ⟨_, _, rfl, hr, hx, trivial⟩ (fun v hv => W.mk ?_)
    subst hv
    dsimp only
    (conv => whnf)
    refine ForkP.mk (fun hfw => W.mk ?_) (fun hfw => W.mk ?_) <;> (conv => whnf)
    rotate_left
    · refine ScaP.g okU (x := ()) rfl (fun v hv => W.mk ?_)
      subst hv
      (conv => whnf)
      refine ForkP.mk (fun _ => W.mk ?_) (fun h => by cases h)
      (conv => whnf)
      exact FinP.mk rfl
    rw [Bool.and_eq_true, decide_eq_true_eq] at hfw
    obtain ⟨hfw, h0⟩ := hfw
    have hf := few_of hfw
    have hrv := hr.v hf
    have hxv := hx.v hf
    obtain ⟨hfine, hrx⟩ := faultX_fine h0
    have hwn := hwu1.len
    have hcols := hfine.c
    have hwl := hfine.wl
    refine RelP.g (ok1 rpRd Repo) (x := r) ⟨_, rfl, hrv, hf.repo⟩ (Grow.refl _) (fun v G2 h2 q2 => W.mk ?_)
    obtain ⟨_, _, rfl, _⟩ := id q2
    have hrv := rpRd.grow h2 hrv
    have hxv := rxRd.grow h2 hxv
    (conv => whnf)
    refine RelP.g (ok1 rxRd fun x => x.may.length ≤ 1000) (x := x) ⟨_, rfl, hxv, by have := hf.ml; omega⟩ (Grow.refl _) (fun v G3 h3 q3 => W.mk ?_)
    obtain ⟨_, rfl, _⟩ := id q3
    have hrv := rpRd.grow h3 hrv
    have hxv := rxRd.grow h3 hxv
    (conv => whnf)
    refine RelP.g (ok2 rpRd rxRd fun _ _ => True) (x := (r, x)) ⟨_, _, rfl, (rpRd.grow h3 q2), q3, trivial⟩ (Grow.refl _) (fun v G4 h4 q4 => W.mk ?_)
    obtain ⟨_, rfl, q4⟩ := q4
    dsimp only at q4 ⊢
    rw [if_pos h0] at q4
    obtain ⟨la, ln, lc, rfl, hl1, _⟩ := id q4
    have hrv := rpRd.grow h4 hrv
    have hxv := rxRd.grow h4 hxv
    (conv => whnf)
    refine RelP.g (ok1 rpRd Repo) (x := r) ⟨_, rfl, hrv, hf.repo⟩ (Grow.refl _) (fun v G5 h5 q5 => W.mk ?_)
    obtain ⟨_, _, rfl, _⟩ := id q5
    have hrv := rpRd.grow h5 hrv
    have hxv := rxRd.grow h5 hxv
    (conv => whnf)
    refine RelP.g (ok1 rxRd fun x => x.may.length ≤ 1000) (x := x) ⟨_, rfl, hxv, by have := hf.ml; omega⟩ (Grow.refl _) (fun v G6 h6 q6 => W.mk ?_)
    obtain ⟨_, rfl, _⟩ := id q6
    have hrv := rpRd.grow h6 hrv
    have hxv := rxRd.grow h6 hxv
    (conv => whnf)
    refine RelP.g (ok2 rpRd rxRd fun _ _ => True) (x := (r, x)) ⟨_, _, rfl, (rpRd.grow h6 q5), q6, trivial⟩ (Grow.refl _) (fun v G7 h7 q7 => W.mk ?_)
    obtain ⟨_, rfl, q7⟩ := q7
    dsimp only at q7 ⊢
    rw [if_pos h0] at q7
    obtain ⟨ia, im, ic, rfl, hi1, _⟩ := id q7
    have hrv := rpRd.grow h7 hrv
    have hxv := rxRd.grow h7 hxv
    (conv => whnf)
    have hln := hl1.len
    have hll : (lookF r x).length = (pcF (rgOf r x)).length := by rw [lookF, List.length_map]
    have hpl : (pcF (rgOf r x)).length ≤ r.words.length := pcF_len (rgOf r x)
    have hI := pcI_F r x
    have him := hi1.len
    have hil : (indexF r x).length = (hdsF (colsF (rgOf r x))).length := by rw [indexF, List.length_map]
    refine IteP.mk (fun _ => W.mk ?_) (fun h => absurd h0 h)
    (conv => whnf)
    refine IteP.mk (fun _ => W.mk ?_) (fun h => absurd h0 h)
    (conv => whnf)
    refine OblP.mk ⟨by decide, by decide⟩ (W.mk ?_)
    refine den_newR_eq mks_vb ?_
    (conv => whnf)
    have hg7 := ((((h2.trans h3).trans h4).trans h5).trans h6).trans h7
    have hwu1 := SlR.grow (G := G) (G' := G7) (fun _ _ h => h.grow hg7) hwu1 hg7
    have hokF := colsK_ok hfine x _ (Nat.le_refl _)
    rw [colsK_F] at hokF
    refine LoopP.of { α := Nat, fr := fun y => [(2, .c (.ptr 0 0)), (3, .c (.ptr 1 0)), (5, .v (.slice la ln lc)), (7, .v (.slice ia im ic)), (9, .c (.row 36 7000)), (10, .v (I y))], H := fun y => [(0, .cells .anon [.val (.slice wa wn wc), .val (.slice oa on oc), .val (I r.cols)] 25), (1, .cells .anon [.val (I x.year), .val (.slice ma mn mc)] 28), (36, .row none 7000 (vb (dueF (colsK (rgOf r x) y))) 4 1)], ok := fun y _ => y ≤ ln, m := fun y => ln - y }
      0 (HeadP.of [] ⟨rfl, rfl, rfl, rfl, rfl, rfl, trivial⟩ ⟨rfl, rfl, rfl, trivial⟩) (Nat.zero_le _) (fun _ => ⟨rfl, rfl⟩) (fun (i : Nat) Ga ha hxx => W.mk ?_)
    have hi : i ≤ ln := hxx
    have hrv := rpRd.grow ha hrv
    have hxv := rxRd.grow ha hxv
    dsimp only
    (conv => whnf)
    refine IteP.mk (fun hlt => W.mk ?_) (fun hge => W.mk ?_) <;> (conv => whnf)
    · have hlt : i < (pcF (rgOf r x)).length := by omega
      refine IteP.mk (fun _ => W.mk ?_) (fun h => by exfalso; omega)
      (conv => whnf)
      obtain ⟨e, he⟩ : ∃ e, (pcF (rgOf r x))[i]? = some e := ⟨_, List.getElem?_eq_getElem hlt⟩
      obtain ⟨c1, _⟩ := pcK_at (rgOf r x) _ i e he
      have c1 : e.2.col = (i : Int) / r.cols + 1 := c1
      have hgd : ((pcF (rgOf r x)).map (·.1)).getD ((i : Nat) : Int).toNat (-1) = e.1 := by simp [he]
      have hF0 : findF r x i = if 0 ≤ (i : Int) ∧ (i : Int) < (pcF (rgOf r x)).length ∧ ((pcF (rgOf r x)).map (·.1)).getD ((i : Nat) : Int).toNat (-1) ≠ -1 then (((pcF (rgOf r x)).map (·.1)).getD ((i : Nat) : Int).toNat (-1), 0) else (0, 7) := if_pos h0
      rw [hgd] at hF0
      have hcs := colsK_succ (rgOf r x) he
      have hcd0 : 0 ≤ (i : Int) / r.cols := Int.ediv_nonneg (by omega) (by omega)
      have hcd1 : (i : Int) / r.cols ≤ i := Int.ediv_le_self _ (by omega)
      refine RelP.g (ok1 rpRd Repo) (x := r) ⟨_, rfl, hrv, hf.repo⟩ (Grow.refl _) (fun v G8 h8 q8 => W.mk ?_)
      obtain ⟨_, _, rfl, _⟩ := id q8
      have hrv := rpRd.grow h8 hrv
      have hxv := rxRd.grow h8 hxv
      (conv => whnf)
      refine RelP.g (ok1 rxRd fun x => x.may.length ≤ 1000) (x := x) ⟨_, rfl, hxv, by have := hf.ml; omega⟩ (Grow.refl _) (fun v G9 h9 q9 => W.mk ?_)
      obtain ⟨_, rfl, _⟩ := id q9
      have hrv := rpRd.grow h9 hrv
      have hxv := rxRd.grow h9 hxv
      (conv => whnf)
      refine RelP.g (ok3 rpRd rxRd intRd fun _ _ _ => True) (x := (r, x, (i : Int))) ⟨_, _, _, rfl, rpRd.grow h9 q8, q9, rfl, trivial⟩ (Grow.refl _) (fun v Gb hb qb => W.mk ?_)
      subst qb
      dsimp only
      have hrv := rpRd.grow hb hrv
      have hxv := rxRd.grow hb hxv
      rcases hI.at_ i e he with he1 | ⟨j, he1, hj1, hj2, hj3, hj4⟩
      · have hF : findF r x i = (0, 7) := by rw [hF0, if_neg (fun h => h.2.2 he1)]
        have hst : colsK (rgOf r x) (i + 1) = colsK (rgOf r x) i := by rw [hcs, stepC, if_pos he1]
        rw [hF]
        (conv => whnf)
        refine IteP.mk (fun h => absurd h (by decide)) (fun _ => W.mk ?_)
        (conv => whnf)
        repeat' (first | (refine OblP.mk ?_ (W.mk ?_); (first | trivial | omega | (simp only [inR]; omega) | exact Nat.le_of_ble_eq_true (by rfl) | exact SlR.some (by assumption) (by omega)); (conv => whnf)) | (first | (refine RdP.at (by assumption) (by rfl) (W.mk ?_); (conv => whnf)) | (refine RdP.sub (by assumption) (by rfl) (W.mk ?_); (conv => whnf)) | (refine RdP.sub2 (by assumption) (by rfl) (W.mk ?_); (conv => whnf)) | (refine RdP.sub3 (by assumption) (by rfl) (W.mk ?_); (conv => whnf))))
        refine RoundP.of (i + 1) (HeadP.of [] ⟨rfl, rfl, rfl, rfl, rfl, rfl, trivial⟩ ⟨rfl, rfl, (by rw [hst]; rfl), trivial⟩) (by show i + 1 ≤ ln; omega) (by simp only; omega)
      · have hF : findF r x i = ((j : Int), 0) := by rw [hF0, if_pos ⟨by omega, by omega, by omega⟩, he1]
        have hgw : (rgOf r x).r.words.getD e.1.toNat ⟨noText, []⟩ = r.words[j] := by rw [he1]; simp [rgOf, hj1]
        have hst : colsK (rgOf r x) (i + 1) = r.words[j].heads.foldl (addC ((i : Int) / r.cols + 1)) (colsK (rgOf r x) i) := by rw [hcs, stepC, if_neg (by omega), hgw, c1]
        have hhd := ris_mem (hfine.w _ (List.getElem_mem hj1)).2.2.2.1
        have hh5 := (hfine.w _ (List.getElem_mem hj1)).1
        obtain ⟨cs, _, hcw, hh, rfl, ha1, hn1, hc1, rfl, hhl, _⟩ := hwu1.at_ j hj1
        generalize r.words[j].heads = hs at hst hhd hh5 hhl
        have hhn := hhl.len
        rw [hF]
        (conv => whnf)
        refine IteP.mk (fun _ => W.mk ?_) (fun h => absurd rfl h)
        (conv => whnf)
        refine IteP.mk (fun h => by exfalso; omega) (fun _ => W.mk ?_)
        (conv => whnf)
        refine IteP.mk (fun h => by exfalso; omega) (fun _ => W.mk ?_)
        (conv => whnf)
        refine LoopP.of { α := Nat, fr := fun y => [(2, .c (.ptr 0 0)), (3, .c (.ptr 1 0)), (5, .v (.slice la ln lc)), (7, .v (.slice ia im ic)), (9, .c (.row 36 7000)), (10, .v (I i)), (11, .v (I j)), (13, .v (I y))], H := fun y => [(0, .cells .anon [.val (.slice wa wn wc), .val (.slice oa on oc), .val (I r.cols)] 25), (1, .cells .anon [.val (I x.year), .val (.slice ma mn mc)] 28), (36, .row none 7000 (vb (dueF ((hs.take y).foldl (addC ((i : Int) / r.cols + 1)) (colsK (rgOf r x) i)))) 4 1)], ok := fun y _ => y ≤ hn1, m := fun y => hn1 - y }
          0 (HeadP.of [] ⟨rfl, rfl, rfl, rfl, rfl, rfl, rfl, rfl, trivial⟩ ⟨rfl, rfl, rfl, trivial⟩) (Nat.zero_le _) (fun _ => ⟨rfl, rfl⟩) (fun (m : Nat) Gc hc hxx => W.mk ?_)
        have hm : m ≤ hn1 := hxx
        have hgc := (((ha.trans h8).trans h9).trans hb).trans hc
        have hcw := hcw.grow hgc
        have hrv := rpRd.grow hc hrv
        have hxv := rxRd.grow hc hxv
        dsimp only
        (conv => whnf)
        repeat' (first | (refine OblP.mk ?_ (W.mk ?_); (first | trivial | omega | (simp only [inR]; omega) | exact Nat.le_of_ble_eq_true (by rfl) | exact SlR.some (by assumption) (by omega)); (conv => whnf)) | (first | (refine RdP.at (by assumption) (by rfl) (W.mk ?_); (conv => whnf)) | (refine RdP.sub (by assumption) (by rfl) (W.mk ?_); (conv => whnf)) | (refine RdP.sub2 (by assumption) (by rfl) (W.mk ?_); (conv => whnf)) | (refine RdP.sub3 (by assumption) (by rfl) (W.mk ?_); (conv => whnf))))
        refine IteP.mk (fun hlt2 => W.mk ?_) (fun hge2 => W.mk ?_) <;> (conv => whnf)
        · have hlt2 : m < hs.length := by omega
          have hce := (SlR.grow (G := G7) (G' := Gc) (fun _ _ h => h) hhl hgc).el hlt2
          have htk := take_snoc (List.getElem?_eq_getElem hlt2)
          have hh9 := hhd _ (List.getElem_mem hlt2)
          generalize hs[m] = hq at hce htk hh9
          have hce : CellsAt Gc (ab ha1) (ao ha1 + m * 1) [I hq] := hce
          obtain ⟨N, hN⟩ : ∃ N : Nat, (N : Int) = 70 * hq + (i : Int) / r.cols + 1 := ⟨(70 * hq + (i : Int) / r.cols + 1).toNat, by omega⟩
          have hN7 : N < 7000 := by omega
          have hst2 : vb (dueF ((hs.take (m + 1)).foldl (addC ((i : Int) / r.cols + 1)) (colsK (rgOf r x) i))) = vb (dueF (addC ((i : Int) / r.cols + 1) ((hs.take m).foldl (addC ((i : Int) / r.cols + 1)) (colsK (rgOf r x) i)) hq)) := by rw [htk, List.foldl_append]; rfl
          repeat' (first | (refine OblP.mk ⟨by omega, by omega⟩ (W.mk ?_); (conv => whnf)) | (refine OblP.mk ?_ (W.mk ?_); (first | trivial | omega | (simp only [inR]; omega) | exact Nat.le_of_ble_eq_true (by rfl) | exact SlR.some (by assumption) (by omega)); (conv => whnf)) | (first | (refine RdP.at (by assumption) (by rfl) (W.mk ?_); (conv => whnf)) | (refine RdP.sub (by assumption) (by rfl) (W.mk ?_); (conv => whnf)) | (refine RdP.sub2 (by assumption) (by rfl) (W.mk ?_); (conv => whnf)) | (refine RdP.sub3 (by assumption) (by rfl) (W.mk ?_); (conv => whnf))))
          have hNt : (70 * hq + (i : Int) / r.cols + 1).toNat = N := by omega
          refine OblP.mk (by rw [vb_len]; omega) (W.mk ?_)
          refine den_setR_eq (vs' := vb (dueF (addC ((i : Int) / r.cols + 1) ((hs.take m).foldl (addC ((i : Int) / r.cols + 1)) (colsK (rgOf r x) i)) hq))) (by
            rw [hNt]
            refine vb_set hN7 fun k => ?_
            rw [addC_due ⟨by omega, by omega⟩ hh9]
            by_cases ek : k = N
            · rw [if_pos ek, decide_eq_true (by omega), Bool.or_true]
            · rw [if_neg ek, decide_eq_false (by omega), Bool.or_false]) ?_
          (conv => whnf)
          repeat' (first | (refine OblP.mk ?_ (W.mk ?_); (first | trivial | omega | (simp only [inR]; omega) | exact Nat.le_of_ble_eq_true (by rfl) | exact SlR.some (by assumption) (by omega)); (conv => whnf)) | (first | (refine RdP.at (by assumption) (by rfl) (W.mk ?_); (conv => whnf)) | (refine RdP.sub (by assumption) (by rfl) (W.mk ?_); (conv => whnf)) | (refine RdP.sub2 (by assumption) (by rfl) (W.mk ?_); (conv => whnf)) | (refine RdP.sub3 (by assumption) (by rfl) (W.mk ?_); (conv => whnf))))
          exact RoundP.of (m + 1) (HeadP.of [] ⟨rfl, rfl, rfl, rfl, rfl, rfl, rfl, rfl, trivial⟩ ⟨rfl, rfl, (by rw [hst2]; rfl), trivial⟩) (by show m + 1 ≤ hn1; omega) (by simp only; omega)
        · have hst3 : colsK (rgOf r x) (i + 1) = (hs.take m).foldl (addC ((i : Int) / r.cols + 1)) (colsK (rgOf r x) i) := by rw [hst, List.take_of_length_le (by omega)]
          repeat' (first | (refine OblP.mk ?_ (W.mk ?_); (first | trivial | omega | (simp only [inR]; omega) | exact Nat.le_of_ble_eq_true (by rfl) | exact SlR.some (by assumption) (by omega)); (conv => whnf)) | (first | (refine RdP.at (by assumption) (by rfl) (W.mk ?_); (conv => whnf)) | (refine RdP.sub (by assumption) (by rfl) (W.mk ?_); (conv => whnf)) | (refine RdP.sub2 (by assumption) (by rfl) (W.mk ?_); (conv => whnf)) | (refine RdP.sub3 (by assumption) (by rfl) (W.mk ?_); (conv => whnf))))
          exact RoundP.of (i + 1) (HeadP.of [] ⟨rfl, rfl, rfl, rfl, rfl, rfl, trivial⟩ ⟨rfl, rfl, (by rw [hst3]; rfl), trivial⟩) (by show i + 1 ≤ ln; omega) (by simp only; omega)
    · have hie : i = (pcF (rgOf r x)).length := by omega
      subst hie
      have hbd : ((pcF (rgOf r x)).length : Int) / r.cols + 1 ≤ 69 := by
        have := Int.ediv_le_self (a := ((pcF (rgOf r x)).length : Int)) r.cols (by omega)
        omega
      obtain ⟨F, hF⟩ : ∃ F, F = colsF (rgOf r x) := ⟨_, rfl⟩
      obtain ⟨hds, hH⟩ : ∃ l, l = hdsF F := ⟨_, rfl⟩
      have h00 : colsK (rgOf r x) (pcF (rgOf r x)).length = restF F hds 0 0 := by rw [hF, restF_zero, colsK_F]
      rw [h00]
      have hil : (indexF r x).length = hds.length := by rw [hH, hF]; exact hil
      have hent : ∀ (q : Nat) (_ : q < (indexF r x).length) (h2 : q < hds.length), (indexF r x)[q] = ⟨hds[q], F hds[q]⟩ := fun q hq h2 => by
        subst hH; subst hF; simp [indexF]
      have hnone : ∀ n, n < 7000 → dueF (restF F hds hds.length 0) n = false := by rw [hH]; exact rest_none
      have hhm : ∀ h, h ∈ hds → (0 ≤ h ∧ h ≤ 99) ∧ F h ≠ [] := fun h hh => hdsF_mem.1 (hH ▸ hh)
      have hhs : hds.Pairwise (· < ·) := by rw [hH]; exact hdsF_asc F
      have hokF : ColOk F (((pcF (rgOf r x)).length : Int) / r.cols + 1) := by rw [hF]; exact hokF
      have hnd : hds.Nodup := hhs.imp fun h => by omega
      refine LoopP.of { α := Nat, fr := fun y => [(7, .v (.slice ia im ic)), (9, .c (.row 36 7000)), (14, .v (I y))], H := fun y => [(36, .row none 7000 (vb (dueF (restF F hds y 0))) 4 1)], ok := fun y _ => y ≤ im, m := fun y => im - y }
        0 (HeadP.of [] ⟨rfl, rfl, rfl, trivial⟩ ⟨rfl, trivial⟩) (Nat.zero_le _) (fun _ => ⟨rfl, rfl⟩) (fun (i : Nat) Gd hd2 hxx => W.mk ?_)
      have hi : i ≤ im := hxx
      dsimp only
      (conv => whnf)
      refine IteP.mk (fun hlt => W.mk ?_) (fun hge => W.mk ?_) <;> (conv => whnf)
      · have hlt : i < (indexF r x).length := by omega
        obtain ⟨cs, _, hce, cv, rfl, ca, cn, cc, rfl, hcl, _⟩ := hi1.at_ i hlt
        rw [hent i hlt (by omega)] at hce hcl
        dsimp only at hce hcl
        have hlh : i < hds.length := by omega
        have hdi : hds[i]? = some hds[i] := List.getElem?_eq_getElem hlh
        have hmem := hhm _ (List.getElem_mem hlh)
        have hps : ∀ (q : Nat) (hq : q < i), hds[q]'(by omega) < hds[i] := fun q hq => List.pairwise_iff_getElem.1 hhs q i (by omega) hlh hq
        generalize hds[i] = hd at hce hcl hdi hmem hps
        have hcn := hcl.len
        have hcne : 0 < cn := by
          have := List.length_pos_iff.2 hmem.2
          omega
        have hce := hce.grow (ha.trans hd2)
        repeat' (first | (refine OblP.mk ⟨by omega, by omega⟩ (W.mk ?_); (conv => whnf)) | (refine OblP.mk ?_ (W.mk ?_); (first | trivial | omega | (simp only [inR]; omega) | exact Nat.le_of_ble_eq_true (by rfl) | exact SlR.some (by assumption) (by omega)); (conv => whnf)) | (first | (refine RdP.at (by assumption) (by rfl) (W.mk ?_); (conv => whnf)) | (refine RdP.sub (by assumption) (by rfl) (W.mk ?_); (conv => whnf)) | (refine RdP.sub2 (by assumption) (by rfl) (W.mk ?_); (conv => whnf)) | (refine RdP.sub3 (by assumption) (by rfl) (W.mk ?_); (conv => whnf))))
        refine IteP.mk (fun h => by exfalso; omega) (fun _ => W.mk ?_)
        (conv => whnf)
        repeat' (first | (refine OblP.mk ⟨by omega, by omega⟩ (W.mk ?_); (conv => whnf)) | (refine OblP.mk ?_ (W.mk ?_); (first | trivial | omega | (simp only [inR]; omega) | exact Nat.le_of_ble_eq_true (by rfl) | exact SlR.some (by assumption) (by omega)); (conv => whnf)) | (first | (refine RdP.at (by assumption) (by rfl) (W.mk ?_); (conv => whnf)) | (refine RdP.sub (by assumption) (by rfl) (W.mk ?_); (conv => whnf)) | (refine RdP.sub2 (by assumption) (by rfl) (W.mk ?_); (conv => whnf)) | (refine RdP.sub3 (by assumption) (by rfl) (W.mk ?_); (conv => whnf))))
        refine IteP.mk (fun h => by exfalso; omega) (fun _ => W.mk ?_)
        (conv => whnf)
        refine IteP.mk (fun hi0 => W.mk ?_) (fun hi0 => W.mk ?_) <;> (conv => whnf)
        · have hi0 : (0 : Int) < i := hi0
          obtain ⟨i', hi'⟩ : ∃ i', i = i' + 1 := ⟨i - 1, by omega⟩
          obtain ⟨cs', _, hce', cv', rfl, _⟩ := hi1.at_ i' (by omega)
          rw [hent i' (by omega) (by omega)] at hce'
          dsimp only at hce'
          have hce' := hce'.grow (ha.trans hd2)
          have hlt3 := hps i' (by omega)
          have hk1 : (i : Int) - 1 = i' := by omega
          repeat' (first | (first | (refine RdP.at (by assumption) (by rfl) (W.mk ?_); (conv => whnf)) | (refine RdP.sub (by assumption) (by rfl) (W.mk ?_); (conv => whnf)) | (refine RdP.sub2 (by assumption) (by rfl) (W.mk ?_); (conv => whnf)) | (refine RdP.sub3 (by assumption) (by rfl) (W.mk ?_); (conv => whnf))) | (refine OblP.mk ⟨by omega, by omega⟩ (W.mk ?_); (conv => whnf); first | rw [hk1] | skip) | (refine OblP.mk (by simp only [inR]; omega) (W.mk ?_); (conv => whnf); first | rw [hk1] | skip) | (refine OblP.mk ?_ (W.mk ?_); (first | trivial | omega | (simp only [inR]; omega) | exact Nat.le_of_ble_eq_true (by rfl) | exact SlR.some (by assumption) (by omega)); (conv => whnf)))
          refine IteP.mk (fun h => by exfalso; omega) (fun _ => W.mk ?_)
          (conv => whnf)
          repeat' (first | (refine OblP.mk ⟨by omega, by omega⟩ (W.mk ?_); (conv => whnf)) | (refine OblP.mk ?_ (W.mk ?_); (first | trivial | omega | (simp only [inR]; omega) | exact Nat.le_of_ble_eq_true (by rfl) | exact SlR.some (by assumption) (by omega)); (conv => whnf)) | (first | (refine RdP.at (by assumption) (by rfl) (W.mk ?_); (conv => whnf)) | (refine RdP.sub (by assumption) (by rfl) (W.mk ?_); (conv => whnf)) | (refine RdP.sub2 (by assumption) (by rfl) (W.mk ?_); (conv => whnf)) | (refine RdP.sub3 (by assumption) (by rfl) (W.mk ?_); (conv => whnf))))
          refine IteP.mk (fun h => absurd h (by omega)) (fun _ => W.mk ?_)
          (conv => whnf)
          refine LoopP.of { α := Nat, fr := fun y => [(7, .v (.slice ia im ic)), (9, .c (.row 36 7000)), (14, .v (I i)), (15, .v (I y))], H := fun y => [(36, .row none 7000 (vb (dueF (restF F hds i y))) 4 1)], ok := fun y _ => y ≤ cn, m := fun y => cn - y }
            0 (HeadP.of [] ⟨rfl, rfl, rfl, rfl, trivial⟩ ⟨rfl, trivial⟩) (Nat.zero_le _) (fun _ => ⟨rfl, rfl⟩) (fun (k : Nat) Ge he2 hxx => W.mk ?_)
          have hk : k ≤ cn := hxx
          have hce := hce.grow he2
          dsimp only
          (conv => whnf)
          repeat' (first | (refine OblP.mk ⟨by omega, by omega⟩ (W.mk ?_); (conv => whnf)) | (refine OblP.mk ?_ (W.mk ?_); (first | trivial | omega | (simp only [inR]; omega) | exact Nat.le_of_ble_eq_true (by rfl) | exact SlR.some (by assumption) (by omega)); (conv => whnf)) | (first | (refine RdP.at (by assumption) (by rfl) (W.mk ?_); (conv => whnf)) | (refine RdP.sub (by assumption) (by rfl) (W.mk ?_); (conv => whnf)) | (refine RdP.sub2 (by assumption) (by rfl) (W.mk ?_); (conv => whnf)) | (refine RdP.sub3 (by assumption) (by rfl) (W.mk ?_); (conv => whnf))))
          refine IteP.mk (fun hlt2 => W.mk ?_) (fun hge2 => W.mk ?_) <;> (conv => whnf)
          rotate_left
          · obtain rfl : k = cn := by omega
            have hnxt := restF_next (F := F) hdi hnd
            rw [hcn] at hnxt
            repeat' (first | (refine OblP.mk ?_ (W.mk ?_); (first | trivial | omega | (simp only [inR]; omega) | exact Nat.le_of_ble_eq_true (by rfl) | exact SlR.some (by assumption) (by omega)); (conv => whnf)) | (first | (refine RdP.at (by assumption) (by rfl) (W.mk ?_); (conv => whnf)) | (refine RdP.sub (by assumption) (by rfl) (W.mk ?_); (conv => whnf)) | (refine RdP.sub2 (by assumption) (by rfl) (W.mk ?_); (conv => whnf)) | (refine RdP.sub3 (by assumption) (by rfl) (W.mk ?_); (conv => whnf))))
            exact RoundP.of (i + 1) (HeadP.of [] ⟨rfl, rfl, rfl, trivial⟩ ⟨(by rw [← hnxt]; rfl), trivial⟩) (by show i + 1 ≤ im; omega) (by simp only; omega)
          have hlt2 : k < (F hd).length := by omega
          have elc : ∀ (q : Nat) (hq : q < (F hd).length), CellsAt Ge (ab ca) (ao ca + q * 1) [I (F hd)[q]] := fun q hq => (SlR.grow (G := G7) (G' := Ge) (fun _ _ h => h) hcl ((ha.trans hd2).trans he2)).el hq
          have hcc := elc k hlt2
          have hcb := hokF.bd hd _ (List.getElem_mem hlt2)
          obtain ⟨N, hN⟩ : ∃ N : Nat, (N : Int) = 70 * hd + (F hd)[k] := ⟨(70 * hd + (F hd)[k]).toNat, by omega⟩
          have hN7 : N < 7000 := by omega
          have hNt : (70 * hd + (F hd)[k]).toNat = N := by omega
          obtain ⟨hdue1, hdue2⟩ := restF_due hdi hnd (hokF.asc hd) hlt2 hmem.1 (by omega) N hN
          have hdue2 : ∀ j, dueF (restF F hds i (k + 1)) j = if j = N then false else dueF (restF F hds i k) j := fun j => by
            rw [hdue2]
            by_cases e : j = N
            · simp [e]
            · simp [e]
          have hprev : ∀ (q : Nat) (hq : q < k), (F hd)[q] < (F hd)[k] := fun q hq => List.pairwise_iff_getElem.1 (hokF.asc hd) q k (by omega) hlt2 hq
          generalize hcv : (F hd)[k] = cv at hcc hcb hN hNt hprev
          repeat' (first | (refine OblP.mk ⟨by omega, by omega⟩ (W.mk ?_); (conv => whnf)) | (refine OblP.mk ?_ (W.mk ?_); (first | trivial | omega | (simp only [inR]; omega) | exact Nat.le_of_ble_eq_true (by rfl) | exact SlR.some (by assumption) (by omega)); (conv => whnf)) | (first | (refine RdP.at (by assumption) (by rfl) (W.mk ?_); (conv => whnf)) | (refine RdP.sub (by assumption) (by rfl) (W.mk ?_); (conv => whnf)) | (refine RdP.sub2 (by assumption) (by rfl) (W.mk ?_); (conv => whnf)) | (refine RdP.sub3 (by assumption) (by rfl) (W.mk ?_); (conv => whnf))))
          refine IteP.mk (fun h => by exfalso; omega) (fun _ => W.mk ?_)
          (conv => whnf)
          refine IteP.mk (fun h => by exfalso; omega) (fun _ => W.mk ?_)
          (conv => whnf)
          refine IteP.mk (fun hk0 => W.mk ?_) (fun hk0 => W.mk ?_) <;> (conv => whnf)
          · have hk0 : (0 : Int) < k := hk0
            obtain ⟨k', hk'⟩ : ∃ k', k = k' + 1 := ⟨k - 1, by omega⟩
            have hcc' := elc k' (by omega)
            have hlt3 := hprev k' (by omega)
            have hk1 : (k : Int) - 1 = k' := by omega
            repeat' (first | (first | (refine RdP.at (by assumption) (by rfl) (W.mk ?_); (conv => whnf)) | (refine RdP.sub (by assumption) (by rfl) (W.mk ?_); (conv => whnf)) | (refine RdP.sub2 (by assumption) (by rfl) (W.mk ?_); (conv => whnf)) | (refine RdP.sub3 (by assumption) (by rfl) (W.mk ?_); (conv => whnf))) | (refine OblP.mk ⟨by omega, by omega⟩ (W.mk ?_); (conv => whnf); first | rw [hk1] | skip) | (refine OblP.mk (by simp only [inR]; omega) (W.mk ?_); (conv => whnf); first | rw [hk1] | skip) | (refine OblP.mk ?_ (W.mk ?_); (first | trivial | omega | (simp only [inR]; omega) | exact Nat.le_of_ble_eq_true (by rfl) | exact SlR.some (by assumption) (by omega)); (conv => whnf)))
            refine IteP.mk (fun h => by exfalso; omega) (fun _ => W.mk ?_)
            (conv => whnf)
            repeat' (first | (refine OblP.mk ⟨by omega, by omega⟩ (W.mk ?_); (conv => whnf)) | (refine OblP.mk ?_ (W.mk ?_); (first | trivial | omega | (simp only [inR]; omega) | exact Nat.le_of_ble_eq_true (by rfl) | exact SlR.some (by assumption) (by omega)); (conv => whnf)) | (first | (refine RdP.at (by assumption) (by rfl) (W.mk ?_); (conv => whnf)) | (refine RdP.sub (by assumption) (by rfl) (W.mk ?_); (conv => whnf)) | (refine RdP.sub2 (by assumption) (by rfl) (W.mk ?_); (conv => whnf)) | (refine RdP.sub3 (by assumption) (by rfl) (W.mk ?_); (conv => whnf))))
            have hget : ((vb (dueF (restF F hds i k))).drop ((70 * hd + cv).toNat * 1)).take 1 = [.bool true] := by rw [hNt]; exact vb_get hN7 hdue1
            refine EqP.mk ⟨_, hget, rfl, W.mk ?_⟩
            (conv => whnf)
            refine ForkP.mk (fun _ => W.mk ?_) (fun h => by cases h)
            (conv => whnf)
            repeat' (first | (refine OblP.mk ⟨by omega, by omega⟩ (W.mk ?_); (conv => whnf)) | (refine OblP.mk ?_ (W.mk ?_); (first | trivial | omega | (simp only [inR]; omega) | exact Nat.le_of_ble_eq_true (by rfl) | exact SlR.some (by assumption) (by omega)); (conv => whnf)) | (first | (refine RdP.at (by assumption) (by rfl) (W.mk ?_); (conv => whnf)) | (refine RdP.sub (by assumption) (by rfl) (W.mk ?_); (conv => whnf)) | (refine RdP.sub2 (by assumption) (by rfl) (W.mk ?_); (conv => whnf)) | (refine RdP.sub3 (by assumption) (by rfl) (W.mk ?_); (conv => whnf))))
            refine OblP.mk (by rw [vb_len]; omega) (W.mk ?_)
            refine den_setR_eq (vs' := vb (dueF (restF F hds i (k + 1)))) (by rw [hNt]; exact vb_set hN7 hdue2) ?_
            (conv => whnf)
            repeat' (first | (refine OblP.mk ?_ (W.mk ?_); (first | trivial | omega | (simp only [inR]; omega) | exact Nat.le_of_ble_eq_true (by rfl) | exact SlR.some (by assumption) (by omega)); (conv => whnf)) | (first | (refine RdP.at (by assumption) (by rfl) (W.mk ?_); (conv => whnf)) | (refine RdP.sub (by assumption) (by rfl) (W.mk ?_); (conv => whnf)) | (refine RdP.sub2 (by assumption) (by rfl) (W.mk ?_); (conv => whnf)) | (refine RdP.sub3 (by assumption) (by rfl) (W.mk ?_); (conv => whnf))))
            exact RoundP.of (k + 1) (HeadP.of [] ⟨rfl, rfl, rfl, rfl, trivial⟩ ⟨rfl, trivial⟩) (by show k + 1 ≤ cn; omega) (by simp only; omega)
          · repeat' (first | (refine OblP.mk ⟨by omega, by omega⟩ (W.mk ?_); (conv => whnf)) | (refine OblP.mk ?_ (W.mk ?_); (first | trivial | omega | (simp only [inR]; omega) | exact Nat.le_of_ble_eq_true (by rfl) | exact SlR.some (by assumption) (by omega)); (conv => whnf)) | (first | (refine RdP.at (by assumption) (by rfl) (W.mk ?_); (conv => whnf)) | (refine RdP.sub (by assumption) (by rfl) (W.mk ?_); (conv => whnf)) | (refine RdP.sub2 (by assumption) (by rfl) (W.mk ?_); (conv => whnf)) | (refine RdP.sub3 (by assumption) (by rfl) (W.mk ?_); (conv => whnf))))
            have hget : ((vb (dueF (restF F hds i k))).drop ((70 * hd + cv).toNat * 1)).take 1 = [.bool true] := by rw [hNt]; exact vb_get hN7 hdue1
            refine EqP.mk ⟨_, hget, rfl, W.mk ?_⟩
            (conv => whnf)
            refine ForkP.mk (fun _ => W.mk ?_) (fun h => by cases h)
            (conv => whnf)
            repeat' (first | (refine OblP.mk ⟨by omega, by omega⟩ (W.mk ?_); (conv => whnf)) | (refine OblP.mk ?_ (W.mk ?_); (first | trivial | omega | (simp only [inR]; omega) | exact Nat.le_of_ble_eq_true (by rfl) | exact SlR.some (by assumption) (by omega)); (conv => whnf)) | (first | (refine RdP.at (by assumption) (by rfl) (W.mk ?_); (conv => whnf)) | (refine RdP.sub (by assumption) (by rfl) (W.mk ?_); (conv => whnf)) | (refine RdP.sub2 (by assumption) (by rfl) (W.mk ?_); (conv => whnf)) | (refine RdP.sub3 (by assumption) (by rfl) (W.mk ?_); (conv => whnf))))
            refine OblP.mk (by rw [vb_len]; omega) (W.mk ?_)
            refine den_setR_eq (vs' := vb (dueF (restF F hds i (k + 1)))) (by rw [hNt]; exact vb_set hN7 hdue2) ?_
            (conv => whnf)
            repeat' (first | (refine OblP.mk ?_ (W.mk ?_); (first | trivial | omega | (simp only [inR]; omega) | exact Nat.le_of_ble_eq_true (by rfl) | exact SlR.some (by assumption) (by omega)); (conv => whnf)) | (first | (refine RdP.at (by assumption) (by rfl) (W.mk ?_); (conv => whnf)) | (refine RdP.sub (by assumption) (by rfl) (W.mk ?_); (conv => whnf)) | (refine RdP.sub2 (by assumption) (by rfl) (W.mk ?_); (conv => whnf)) | (refine RdP.sub3 (by assumption) (by rfl) (W.mk ?_); (conv => whnf))))
            exact RoundP.of (k + 1) (HeadP.of [] ⟨rfl, rfl, rfl, rfl, trivial⟩ ⟨rfl, trivial⟩) (by show k + 1 ≤ cn; omega) (by simp only; omega)
        · repeat' (first | (refine OblP.mk ⟨by omega, by omega⟩ (W.mk ?_); (conv => whnf)) | (refine OblP.mk ?_ (W.mk ?_); (first | trivial | omega | (simp only [inR]; omega) | exact Nat.le_of_ble_eq_true (by rfl) | exact SlR.some (by assumption) (by omega)); (conv => whnf)) | (first | (refine RdP.at (by assumption) (by rfl) (W.mk ?_); (conv => whnf)) | (refine RdP.sub (by assumption) (by rfl) (W.mk ?_); (conv => whnf)) | (refine RdP.sub2 (by assumption) (by rfl) (W.mk ?_); (conv => whnf)) | (refine RdP.sub3 (by assumption) (by rfl) (W.mk ?_); (conv => whnf))))
          refine IteP.mk (fun h => absurd h (by omega)) (fun _ => W.mk ?_)
          (conv => whnf)
          refine LoopP.of { α := Nat, fr := fun y => [(7, .v (.slice ia im ic)), (9, .c (.row 36 7000)), (14, .v (I i)), (15, .v (I y))], H := fun y => [(36, .row none 7000 (vb (dueF (restF F hds i y))) 4 1)], ok := fun y _ => y ≤ cn, m := fun y => cn - y }
            0 (HeadP.of [] ⟨rfl, rfl, rfl, rfl, trivial⟩ ⟨rfl, trivial⟩) (Nat.zero_le _) (fun _ => ⟨rfl, rfl⟩) (fun (k : Nat) Ge he2 hxx => W.mk ?_)
          have hk : k ≤ cn := hxx
          have hce := hce.grow he2
          dsimp only
          (conv => whnf)
          repeat' (first | (refine OblP.mk ⟨by omega, by omega⟩ (W.mk ?_); (conv => whnf)) | (refine OblP.mk ?_ (W.mk ?_); (first | trivial | omega | (simp only [inR]; omega) | exact Nat.le_of_ble_eq_true (by rfl) | exact SlR.some (by assumption) (by omega)); (conv => whnf)) | (first | (refine RdP.at (by assumption) (by rfl) (W.mk ?_); (conv => whnf)) | (refine RdP.sub (by assumption) (by rfl) (W.mk ?_); (conv => whnf)) | (refine RdP.sub2 (by assumption) (by rfl) (W.mk ?_); (conv => whnf)) | (refine RdP.sub3 (by assumption) (by rfl) (W.mk ?_); (conv => whnf))))
          refine IteP.mk (fun hlt2 => W.mk ?_) (fun hge2 => W.mk ?_) <;> (conv => whnf)
          rotate_left
          · obtain rfl : k = cn := by omega
            have hnxt := restF_next (F := F) hdi hnd
            rw [hcn] at hnxt
            repeat' (first | (refine OblP.mk ?_ (W.mk ?_); (first | trivial | omega | (simp only [inR]; omega) | exact Nat.le_of_ble_eq_true (by rfl) | exact SlR.some (by assumption) (by omega)); (conv => whnf)) | (first | (refine RdP.at (by assumption) (by rfl) (W.mk ?_); (conv => whnf)) | (refine RdP.sub (by assumption) (by rfl) (W.mk ?_); (conv => whnf)) | (refine RdP.sub2 (by assumption) (by rfl) (W.mk ?_); (conv => whnf)) | (refine RdP.sub3 (by assumption) (by rfl) (W.mk ?_); (conv => whnf))))
            exact RoundP.of (i + 1) (HeadP.of [] ⟨rfl, rfl, rfl, trivial⟩ ⟨(by rw [← hnxt]; rfl), trivial⟩) (by show i + 1 ≤ im; omega) (by simp only; omega)
          have hlt2 : k < (F hd).length := by omega
          have elc : ∀ (q : Nat) (hq : q < (F hd).length), CellsAt Ge (ab ca) (ao ca + q * 1) [I (F hd)[q]] := fun q hq => (SlR.grow (G := G7) (G' := Ge) (fun _ _ h => h) hcl ((ha.trans hd2).trans he2)).el hq
          have hcc := elc k hlt2
          have hcb := hokF.bd hd _ (List.getElem_mem hlt2)
          obtain ⟨N, hN⟩ : ∃ N : Nat, (N : Int) = 70 * hd + (F hd)[k] := ⟨(70 * hd + (F hd)[k]).toNat, by omega⟩
          have hN7 : N < 7000 := by omega
          have hNt : (70 * hd + (F hd)[k]).toNat = N := by omega
          obtain ⟨hdue1, hdue2⟩ := restF_due hdi hnd (hokF.asc hd) hlt2 hmem.1 (by omega) N hN
          have hdue2 : ∀ j, dueF (restF F hds i (k + 1)) j = if j = N then false else dueF (restF F hds i k) j := fun j => by
            rw [hdue2]
            by_cases e : j = N
            · simp [e]
            · simp [e]
          have hprev : ∀ (q : Nat) (hq : q < k), (F hd)[q] < (F hd)[k] := fun q hq => List.pairwise_iff_getElem.1 (hokF.asc hd) q k (by omega) hlt2 hq
          generalize hcv : (F hd)[k] = cv at hcc hcb hN hNt hprev
          repeat' (first | (refine OblP.mk ⟨by omega, by omega⟩ (W.mk ?_); (conv => whnf)) | (refine OblP.mk ?_ (W.mk ?_); (first | trivial | omega | (simp only [inR]; omega) | exact Nat.le_of_ble_eq_true (by rfl) | exact SlR.some (by assumption) (by omega)); (conv => whnf)) | (first | (refine RdP.at (by assumption) (by rfl) (W.mk ?_); (conv => whnf)) | (refine RdP.sub (by assumption) (by rfl) (W.mk ?_); (conv => whnf)) | (refine RdP.sub2 (by assumption) (by rfl) (W.mk ?_); (conv => whnf)) | (refine RdP.sub3 (by assumption) (by rfl) (W.mk ?_); (conv => whnf))))
          refine IteP.mk (fun h => by exfalso; omega) (fun _ => W.mk ?_)
          (conv => whnf)
          refine IteP.mk (fun h => by exfalso; omega) (fun _ => W.mk ?_)
          (conv => whnf)
          refine IteP.mk (fun hk0 => W.mk ?_) (fun hk0 => W.mk ?_) <;> (conv => whnf)
          · have hk0 : (0 : Int) < k := hk0
            obtain ⟨k', hk'⟩ : ∃ k', k = k' + 1 := ⟨k - 1, by omega⟩
            have hcc' := elc k' (by omega)
            have hlt3 := hprev k' (by omega)
            have hk1 : (k : Int) - 1 = k' := by omega
            repeat' (first | (first | (refine RdP.at (by assumption) (by rfl) (W.mk ?_); (conv => whnf)) | (refine RdP.sub (by assumption) (by rfl) (W.mk ?_); (conv => whnf)) | (refine RdP.sub2 (by assumption) (by rfl) (W.mk ?_); (conv => whnf)) | (refine RdP.sub3 (by assumption) (by rfl) (W.mk ?_); (conv => whnf))) | (refine OblP.mk ⟨by omega, by omega⟩ (W.mk ?_); (conv => whnf); first | rw [hk1] | skip) | (refine OblP.mk (by simp only [inR]; omega) (W.mk ?_); (conv => whnf); first | rw [hk1] | skip) | (refine OblP.mk ?_ (W.mk ?_); (first | trivial | omega | (simp only [inR]; omega) | exact Nat.le_of_ble_eq_true (by rfl) | exact SlR.some (by assumption) (by omega)); (conv => whnf)))
            refine IteP.mk (fun h => by exfalso; omega) (fun _ => W.mk ?_)
            (conv => whnf)
            repeat' (first | (refine OblP.mk ⟨by omega, by omega⟩ (W.mk ?_); (conv => whnf)) | (refine OblP.mk ?_ (W.mk ?_); (first | trivial | omega | (simp only [inR]; omega) | exact Nat.le_of_ble_eq_true (by rfl) | exact SlR.some (by assumption) (by omega)); (conv => whnf)) | (first | (refine RdP.at (by assumption) (by rfl) (W.mk ?_); (conv => whnf)) | (refine RdP.sub (by assumption) (by rfl) (W.mk ?_); (conv => whnf)) | (refine RdP.sub2 (by assumption) (by rfl) (W.mk ?_); (conv => whnf)) | (refine RdP.sub3 (by assumption) (by rfl) (W.mk ?_); (conv => whnf))))
            have hget : ((vb (dueF (restF F hds i k))).drop ((70 * hd + cv).toNat * 1)).take 1 = [.bool true] := by rw [hNt]; exact vb_get hN7 hdue1
            refine EqP.mk ⟨_, hget, rfl, W.mk ?_⟩
            (conv => whnf)
            refine ForkP.mk (fun _ => W.mk ?_) (fun h => by cases h)
            (conv => whnf)
            repeat' (first | (refine OblP.mk ⟨by omega, by omega⟩ (W.mk ?_); (conv => whnf)) | (refine OblP.mk ?_ (W.mk ?_); (first | trivial | omega | (simp only [inR]; omega) | exact Nat.le_of_ble_eq_true (by rfl) | exact SlR.some (by assumption) (by omega)); (conv => whnf)) | (first | (refine RdP.at (by assumption) (by rfl) (W.mk ?_); (conv => whnf)) | (refine RdP.sub (by assumption) (by rfl) (W.mk ?_); (conv => whnf)) | (refine RdP.sub2 (by assumption) (by rfl) (W.mk ?_); (conv => whnf)) | (refine RdP.sub3 (by assumption) (by rfl) (W.mk ?_); (conv => whnf))))
            refine OblP.mk (by rw [vb_len]; omega) (W.mk ?_)
            refine den_setR_eq (vs' := vb (dueF (restF F hds i (k + 1)))) (by rw [hNt]; exact vb_set hN7 hdue2) ?_
            (conv => whnf)
            repeat' (first | (refine OblP.mk ?_ (W.mk ?_); (first | trivial | omega | (simp only [inR]; omega) | exact Nat.le_of_ble_eq_true (by rfl) | exact SlR.some (by assumption) (by omega)); (conv => whnf)) | (first | (refine RdP.at (by assumption) (by rfl) (W.mk ?_); (conv => whnf)) | (refine RdP.sub (by assumption) (by rfl) (W.mk ?_); (conv => whnf)) | (refine RdP.sub2 (by assumption) (by rfl) (W.mk ?_); (conv => whnf)) | (refine RdP.sub3 (by assumption) (by rfl) (W.mk ?_); (conv => whnf))))
            exact RoundP.of (k + 1) (HeadP.of [] ⟨rfl, rfl, rfl, rfl, trivial⟩ ⟨rfl, trivial⟩) (by show k + 1 ≤ cn; omega) (by simp only; omega)
          · repeat' (first | (refine OblP.mk ⟨by omega, by omega⟩ (W.mk ?_); (conv => whnf)) | (refine OblP.mk ?_ (W.mk ?_); (first | trivial | omega | (simp only [inR]; omega) | exact Nat.le_of_ble_eq_true (by rfl) | exact SlR.some (by assumption) (by omega)); (conv => whnf)) | (first | (refine RdP.at (by assumption) (by rfl) (W.mk ?_); (conv => whnf)) | (refine RdP.sub (by assumption) (by rfl) (W.mk ?_); (conv => whnf)) | (refine RdP.sub2 (by assumption) (by rfl) (W.mk ?_); (conv => whnf)) | (refine RdP.sub3 (by assumption) (by rfl) (W.mk ?_); (conv => whnf))))
            have hget : ((vb (dueF (restF F hds i k))).drop ((70 * hd + cv).toNat * 1)).take 1 = [.bool true] := by rw [hNt]; exact vb_get hN7 hdue1
            refine EqP.mk ⟨_, hget, rfl, W.mk ?_⟩
            (conv => whnf)
            refine ForkP.mk (fun _ => W.mk ?_) (fun h => by cases h)
            (conv => whnf)
            repeat' (first | (refine OblP.mk ⟨by omega, by omega⟩ (W.mk ?_); (conv => whnf)) | (refine OblP.mk ?_ (W.mk ?_); (first | trivial | omega | (simp only [inR]; omega) | exact Nat.le_of_ble_eq_true (by rfl) | exact SlR.some (by assumption) (by omega)); (conv => whnf)) | (first | (refine RdP.at (by assumption) (by rfl) (W.mk ?_); (conv => whnf)) | (refine RdP.sub (by assumption) (by rfl) (W.mk ?_); (conv => whnf)) | (refine RdP.sub2 (by assumption) (by rfl) (W.mk ?_); (conv => whnf)) | (refine RdP.sub3 (by assumption) (by rfl) (W.mk ?_); (conv => whnf))))
            refine OblP.mk (by rw [vb_len]; omega) (W.mk ?_)
            refine den_setR_eq (vs' := vb (dueF (restF F hds i (k + 1)))) (by rw [hNt]; exact vb_set hN7 hdue2) ?_
            (conv => whnf)
            repeat' (first | (refine OblP.mk ?_ (W.mk ?_); (first | trivial | omega | (simp only [inR]; omega) | exact Nat.le_of_ble_eq_true (by rfl) | exact SlR.some (by assumption) (by omega)); (conv => whnf)) | (first | (refine RdP.at (by assumption) (by rfl) (W.mk ?_); (conv => whnf)) | (refine RdP.sub (by assumption) (by rfl) (W.mk ?_); (conv => whnf)) | (refine RdP.sub2 (by assumption) (by rfl) (W.mk ?_); (conv => whnf)) | (refine RdP.sub3 (by assumption) (by rfl) (W.mk ?_); (conv => whnf))))
            exact RoundP.of (k + 1) (HeadP.of [] ⟨rfl, rfl, rfl, rfl, trivial⟩ ⟨rfl, trivial⟩) (by show k + 1 ≤ cn; omega) (by simp only; omega)
      · have hie : i = im := by omega
        subst hie
        have hih : i = hds.length := by omega
        have hnone : ∀ n, n < 7000 → dueF (restF F hds i 0) n = false := by rw [hih]; exact hnone
        refine LoopP.of { α := Nat, fr := fun y => [(9, .c (.row 36 7000)), (17, .v (I y))], H := fun y => [(36, .row none 7000 (vb (dueF (restF F hds i 0))) 4 1)], ok := fun y _ => y ≤ 7000, m := fun y => 7000 - y }
          0 (HeadP.of [] ⟨rfl, rfl, trivial⟩ ⟨rfl, trivial⟩) (Nat.zero_le _) (fun _ => ⟨rfl, rfl⟩) (fun (k : Nat) Ge he2 hxx => W.mk ?_)
        have hk : k ≤ 7000 := hxx
        dsimp only
        (conv => whnf)
        refine IteP.mk (fun hlt2 => W.mk ?_) (fun hge2 => W.mk ?_) <;> (conv => whnf)
        · have hlt2 : k < 7000 := by omega
          refine OblP.mk ⟨by omega, by omega⟩ (W.mk ?_)
          (conv => whnf)
          refine OblP.mk rfl (W.mk ?_)
          (conv => whnf)
          refine EqP.mk ⟨_, vb_get hlt2 (hnone k hlt2), rfl, W.mk ?_⟩
          (conv => whnf)
          refine ForkP.mk (fun h => by cases h) (fun _ => W.mk ?_)
          (conv => whnf)
          repeat' (first | (refine OblP.mk ?_ (W.mk ?_); (first | trivial | omega | (simp only [inR]; omega) | exact Nat.le_of_ble_eq_true (by rfl) | exact SlR.some (by assumption) (by omega)); (conv => whnf)) | (first | (refine RdP.at (by assumption) (by rfl) (W.mk ?_); (conv => whnf)) | (refine RdP.sub (by assumption) (by rfl) (W.mk ?_); (conv => whnf)) | (refine RdP.sub2 (by assumption) (by rfl) (W.mk ?_); (conv => whnf)) | (refine RdP.sub3 (by assumption) (by rfl) (W.mk ?_); (conv => whnf))))
          exact RoundP.of (k + 1) (HeadP.of [] ⟨rfl, rfl, trivial⟩ ⟨rfl, trivial⟩) (by show k + 1 ≤ 7000; omega) (by simp only; omega)
        · refine ScaP.g okU (x := ()) rfl (fun v hv => W.mk ?_)
          subst hv
          (conv => whnf)
          first | exact FinP.mk rfl | (refine ForkP.mk (fun _ => W.mk ?_) (fun h => by cases h); (conv => whnf); exact FinP.mk rfl)
end Go.Proofs.Ytpcpjmplgladmaa
