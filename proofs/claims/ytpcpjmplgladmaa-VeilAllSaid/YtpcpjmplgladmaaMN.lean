/- Layer 9: the pieces of a view and the words that are shown (plain). -/
import Derived.Test.YtpcpjmplgladmaaMK
import Derived.Test.YtpcpjmplgladmaaML
set_option linter.unusedSimpArgs false
set_option linter.unusedVariables false
namespace Go.Proofs.Ytpcpjmplgladmaa
open Go.Pal Go.RowKit
set_option maxRecDepth 100000
theorem pur_eqT (a b : ByteArray) : ∀ w, ((POp.bin .eql 9).sem [.string a, .string b]).run Try.prog w = .ok (.bool (decide (a = b))) w := fun w => by
  have e1 : (POp.bin .eql 9).sem [.string a, .string b] = (do eqGuard .eql 9 (.tmp 0) (.tmp 0) (.string a) (.string b); binOp .eql 9 (.string a) (.string b)) := rfl
  have e2 : (a.toList == b.toList) = decide (a = b) := by
    rw [Bool.eq_iff_iff]
    simp only [ByteArray.toList_eq, beq_iff_eq, decide_eq_true_eq]
    exact ⟨fun h => by cases a; cases b; simp [Array.toList_inj] at h; rw [h], fun h => by rw [h]⟩
  rw [e1, eqGuard_at_string, binOp_string_eql, e2]
  rfl
theorem pur_neT (a b : ByteArray) : ∀ w, ((POp.bin .neq 9).sem [.string a, .string b]).run Try.prog w = .ok (.bool (!decide (a = b))) w := fun w => by
  have e1 : (POp.bin .neq 9).sem [.string a, .string b] = (do eqGuard .neq 9 (.tmp 0) (.tmp 0) (.string a) (.string b); binOp .neq 9 (.string a) (.string b)) := rfl
  have e2 : (a.toList == b.toList) = decide (a = b) := by
    rw [Bool.eq_iff_iff]
    simp only [ByteArray.toList_eq, beq_iff_eq, decide_eq_true_eq]
    exact ⟨fun h => by cases a; cases b; simp [Array.toList_inj] at h; rw [h], fun h => by rw [h]⟩
  rw [e1, eqGuard_at_string, binOp_string_neq, e2]
  rfl
/-- The word after those of some pieces. -/
def nxF (l : List (Int × Pc)) : Nat := l.foldl (fun n e => if e.1 = -1 then n else e.1.toNat + 1) 0
theorem nxF_snoc (l : List (Int × Pc)) (e : Int × Pc) : nxF (l ++ [e]) = if e.1 = -1 then nxF l else e.1.toNat + 1 := by
  rw [nxF, List.foldl_append]; rfl
structure PcI (g : Rg) (i : Nat) (l : List (Int × Pc)) : Prop where
  at_ : ∀ (k : Nat) (e : Int × Pc), l[k]? = some e → e.1 = -1 ∨ ∃ j : Nat, e.1 = j ∧ j < i ∧ g.p j = false ∧ nxF (l.take k) ≤ j ∧ ∀ m, nxF (l.take k) ≤ m → m < j → g.p m = true
  gap : ∀ (k : Nat) (e e' : Int × Pc), l[k]? = some e → l[k + 1]? = some e' → e.1 = -1 → e'.1 ≠ -1
  tail : nxF l ≤ i ∧ ∀ m, nxF l ≤ m → m < i → g.p m = true
  last : ∀ (l0 : List (Int × Pc)) (e : Int × Pc), l = l0 ++ [e] → e.1 = -1 → 0 < i ∧ g.p (i - 1) = true
theorem snoc_last {α : Type} {l : List α} {k : Nat} {e : α} (h : l[k]? = some e) (hk : k + 1 = l.length) : l = l.take k ++ [e] := by
  rw [← take_snoc h, hk, List.take_length]
theorem pcI_of (g : Rg) : ∀ i, PcI g i (pcK g i)
  | 0 => ⟨fun k e h => by simp [pcK] at h, fun k e e' h => by simp [pcK] at h, ⟨Nat.le_refl _, fun m _ h => by omega⟩, fun l0 e h => by simp [pcK] at h⟩
  | i + 1 => by
    have ih := pcI_of g i
    have at1 : ∀ (t : List (Int × Pc)) (k : Nat) (e : Int × Pc), k < (pcK g i).length → (pcK g i ++ t)[k]? = some e → e.1 = -1 ∨ ∃ j : Nat, e.1 = j ∧ j < i + 1 ∧ g.p j = false ∧ nxF ((pcK g i ++ t).take k) ≤ j ∧ ∀ m, nxF ((pcK g i ++ t).take k) ≤ m → m < j → g.p m = true := fun t k e hk h => by
      rw [List.getElem?_append_left hk] at h
      rw [List.take_append_of_le_length (by omega)]
      exact (ih.at_ k e h).imp id fun ⟨j, h1, h2, h3⟩ => ⟨j, h1, by omega, h3⟩
    have lst : ∀ (e0 : Int × Pc) (k : Nat) (e : Int × Pc), ¬ k < (pcK g i).length → (pcK g i ++ [e0])[k]? = some e → k = (pcK g i).length ∧ e = e0 := fun e0 k e hk h => by
      have h2 := (List.getElem?_eq_some_iff.1 h).1
      have h2 : k = (pcK g i).length := by simp at h2; omega
      subst h2
      simp at h
      exact ⟨rfl, h.symm⟩
    have gap1 : ∀ (e0 : Int × Pc) (k : Nat) (e e' : Int × Pc), (e0.1 = -1 → ¬ (0 < i ∧ g.p (i - 1) = true)) → (pcK g i ++ [e0])[k]? = some e → (pcK g i ++ [e0])[k + 1]? = some e' → e.1 = -1 → e'.1 ≠ -1 := fun e0 k e e' h0 h1 h2 h3 => by
      have hk : k + 1 < (pcK g i ++ [e0]).length := (List.getElem?_eq_some_iff.1 h2).1
      rw [List.length_append, List.length_singleton] at hk
      rw [List.getElem?_append_left (by omega)] at h1
      by_cases hk2 : k + 1 < (pcK g i).length
      · rw [List.getElem?_append_left hk2] at h2
        exact ih.gap k e e' h1 h2 h3
      · obtain ⟨h4, rfl⟩ := lst e0 (k + 1) e' hk2 h2
        exact fun h5 => h0 h5 (ih.last _ _ (snoc_last h1 h4) h3)
    simp only [pcK]
    by_cases hp : g.p i = true
    · rw [if_pos hp]
      by_cases h2 : 0 < i ∧ g.p (i - 1) = true
      · rw [if_pos h2]
        refine ⟨fun k e h => (ih.at_ k e h).imp id fun ⟨j, h1, h2, h3⟩ => ⟨j, h1, by omega, h3⟩, ih.gap, ⟨by have := ih.tail.1; omega, fun m h1 h2 => ?_⟩, fun l0 e _ _ => ⟨by omega, by rw [Nat.add_sub_cancel]; exact hp⟩⟩
        by_cases hm : m = i
        · rw [hm]; exact hp
        · exact ih.tail.2 m h1 (by omega)
      · rw [if_neg h2]
        generalize he0 : ((-1 : Int), (⟨noText, (pcK g i).length / g.r.cols + 1⟩ : Pc)) = e0
        have h01 : e0.1 = -1 := by rw [← he0]
        have hn : nxF (pcK g i ++ [e0]) = nxF (pcK g i) := by rw [nxF_snoc, if_pos h01]
        refine ⟨fun k e h => ?_, fun k e e' => gap1 e0 k e e' fun _ => h2, ⟨by have := ih.tail.1; omega, fun m h1 h3 => ?_⟩, fun l0 e _ _ => ⟨by omega, by rw [Nat.add_sub_cancel]; exact hp⟩⟩
        · by_cases hk : k < (pcK g i).length
          · exact at1 _ k e hk h
          · exact .inl (by rw [(lst e0 k e hk h).2, h01])
        · rw [hn] at h1
          by_cases hm : m = i
          · rw [hm]; exact hp
          · exact ih.tail.2 m h1 (by omega)
    · have hpf : g.p i = false := by simpa using hp
      rw [if_neg hp]
      generalize he0 : ((i : Int), (⟨(g.r.words.getD i ⟨noText, []⟩).text, (pcK g i).length / g.r.cols + 1⟩ : Pc)) = e0
      have h01 : e0.1 = (i : Int) := by rw [← he0]
      have hne : e0.1 ≠ -1 := by omega
      have hn : nxF (pcK g i ++ [e0]) = i + 1 := by rw [nxF_snoc, if_neg hne, h01, Int.toNat_natCast]
      refine ⟨fun k e h => ?_, fun k e e' => gap1 e0 k e e' fun h => absurd h hne, ⟨by omega, fun m h1 h3 => by omega⟩, fun l0 e h h1 => ?_⟩
      · by_cases hk : k < (pcK g i).length
        · exact at1 _ k e hk h
        · obtain ⟨rfl, rfl⟩ := lst e0 k e hk h
          rw [List.take_left]
          exact .inr ⟨i, h01, by omega, hpf, ih.tail.1, ih.tail.2⟩
      · have := List.append_inj_right' h rfl
        simp at this
        rw [← this] at h1
        exact absurd h1 hne
theorem pcI_F (r : Rp) (x : Rx) : PcI (rgOf r x) r.words.length (pcF (rgOf r x)) := pcI_of _ _
end Go.Proofs.Ytpcpjmplgladmaa

/- Layer 9: the law VeilAll. -/
  namespace Go.Proofs.Ytpcpjmplgladmaa
open Go.Pal Go.RowKit
set_option maxRecDepth 100000
set_option maxHeartbeats 1000000
theorem law9 : Sound Try.prog 9 id (gsca (args2 ruRd xuRd fun _ _ => True) fun _ v => v = .bool true) := by
  refine comp9.gsca tabLw (fun args G s h => ?_) (fun args G p h => ?_)
  · obtain ⟨u, v, rfl, _⟩ := h; simp
  · obtain ⟨r, x⟩ := p
    obtain ⟨u, v, rfl, hr, hx, _⟩ := h
    dsimp only at hr hx
    obtain ⟨rw_, ro, rfl, ⟨wa, wn, wc, rfl, hwu1, hwu2⟩, ⟨oa, on, oc, rfl, hou1, hou2⟩⟩ := id hr
    obtain ⟨m, rfl, ⟨ma, mn, mc, rfl, hmu1, hmu2⟩⟩ := id hx
    try dsimp only
    (conv => whnf)
    refine ScaP.g (ok2 ruRd xuRd fun _ _ => True) (x := (r, x)) ⟨_, _, rfl, hr, hx, trivial⟩ (fun v hv => W.mk ?_)
    subst hv
    dsimp only
    (conv => whnf)
    refine ForkP.mk (fun hfw => W.mk ?_) (fun hfw => W.mk ?_) <;> (conv => whnf)
    rotate_left
    · refine ScaP.g okU (x := ()) rfl (fun v hv => W.mk ?_)
      subst hv
      (conv => whnf)
      refine ForkP.mk (fun _ => W.mk ?_) (fun h => by cases h)
      (conv => whnf)
      exact FinP.mk rfl
    rw [Bool.and_eq_true, decide_eq_true_eq] at hfw
    obtain ⟨hfw, h0⟩ := hfw
    have hf := few_of hfw
    have hrv := hr.v hf
    have hxv := hx.v hf
    obtain ⟨hfine, hrx⟩ := faultX_fine h0
    have hwn := hwu1.len
    have hcols := hfine.c
    have hwl := hfine.wl
    refine RelP.g (ok1 rpRd Repo) (x := r) ⟨_, rfl, hrv, hf.repo⟩ (Grow.refl _) (fun v G2 h2 q2 => W.mk ?_)
    obtain ⟨_, _, rfl, _⟩ := id q2
    have hrv := rpRd.grow h2 hrv
    have hxv := rxRd.grow h2 hxv
    (conv => whnf)
    refine RelP.g (ok1 rxRd fun x => x.may.length ≤ 1000) (x := x) ⟨_, rfl, hxv, by have := hf.ml; omega⟩ (Grow.refl _) (fun v G3 h3 q3 => W.mk ?_)
    obtain ⟨_, rfl, _⟩ := id q3
    have hrv := rpRd.grow h3 hrv
    have hxv := rxRd.grow h3 hxv
    (conv => whnf)
    refine RelP.g (ok2 rpRd rxRd fun _ _ => True) (x := (r, x)) ⟨_, _, rfl, rpRd.grow h3 q2, q3, trivial⟩ (Grow.refl _) (fun v G4 h4 q4 => W.mk ?_)
    obtain ⟨wl, rfl, hL⟩ := q4
    dsimp only at hL ⊢
    rw [if_pos h0] at hL
    obtain ⟨la, ln, lc, rfl, hl1, hl2⟩ := id hL
    have hln := hl1.len
    have hll : (lookF r x).length = (pcF (rgOf r x)).length := by rw [lookF, List.length_map]
    have hpl : (pcF (rgOf r x)).length ≤ r.words.length := pcF_len (rgOf r x)
    have hI := pcI_F r x
    have hrv := rpRd.grow h4 hrv
    have hxv := rxRd.grow h4 hxv
    (conv => whnf)
    refine IteP.mk (fun _ => W.mk ?_) (fun h => absurd h0 h)
    (conv => whnf)
    refine IteP.mk (fun h => by exfalso; omega) (fun _ => W.mk ?_)
    (conv => whnf)
    have hwu1 := SlR.grow (G := G) (G' := G4) (fun _ _ h => h.grow ((h2.trans h3).trans h4)) hwu1 ((h2.trans h3).trans h4)
    refine LoopP.of { α := Nat, fr := fun y => [(2, .c (.ptr 0 0)), (3, .c (.ptr 1 0)), (5, .v (.slice la ln lc)), (7, .v (I (nxF ((pcF (rgOf r x)).take y)))), (8, .v (I y))], H := fun _ => [(0, .cells .anon [.val (.slice wa wn wc), .val (.slice oa on oc), .val (I r.cols)] 25), (1, .cells .anon [.val (I x.year), .val (.slice ma mn mc)] 28)], ok := fun y _ => y ≤ ln, m := fun y => ln - y }
      0 (HeadP.of [] ⟨rfl, rfl, rfl, rfl, rfl, trivial⟩ ⟨rfl, rfl, trivial⟩) (Nat.zero_le _) (fun _ => ⟨rfl, rfl⟩) (fun (i : Nat) Ga ha hxx => W.mk ?_)
    have hi : i ≤ ln := hxx
    have hrv := rpRd.grow ha hrv
    have hxv := rxRd.grow ha hxv
    dsimp only
    (conv => whnf)
    refine IteP.mk (fun hlt => W.mk ?_) (fun hge => W.mk ?_) <;> (conv => whnf)
    · have hlt : i < (pcF (rgOf r x)).length := by omega
      obtain ⟨e, he⟩ : ∃ e, (pcF (rgOf r x))[i]? = some e := ⟨_, List.getElem?_eq_getElem hlt⟩
      have elx : ∀ (G' : Hp) (hg : Grow G4 G') (k : Nat) (q : Int × Pc), (pcF (rgOf r x))[k]? = some q → CellsAt G' (ab la) (ao la + k * 2) [.string q.2.text, I q.2.col] := fun G' hg k q hq => by
        have hle : (lookF r x)[k]? = some q.2 := by rw [lookF, List.getElem?_map, hq]; rfl
        obtain ⟨k1, k2⟩ := List.getElem?_eq_some_iff.1 hle
        have := (SlR.grow (G := G4) (G' := G') (fun _ _ h => h) hl1 hg).el k1
        rw [k2] at this
        exact this
      have hc := elx Ga ha i e he
      obtain ⟨c1, c2⟩ := pcK_at (rgOf r x) _ i e he
      have c1 : e.2.col = (i : Int) / r.cols + 1 := c1
      have hgd : ((pcF (rgOf r x)).map (·.1)).getD ((i : Nat) : Int).toNat (-1) = e.1 := by simp [he]
      have hF0 : findF r x i = if 0 ≤ (i : Int) ∧ (i : Int) < (pcF (rgOf r x)).length ∧ ((pcF (rgOf r x)).map (·.1)).getD ((i : Nat) : Int).toNat (-1) ≠ -1 then (((pcF (rgOf r x)).map (·.1)).getD ((i : Nat) : Int).toNat (-1), 0) else (0, 7) := if_pos h0
      rw [hgd] at hF0
      have hcd0 : 0 ≤ (i : Int) / r.cols := Int.ediv_nonneg (by omega) (by omega)
      have hcd1 : (i : Int) / r.cols ≤ i := Int.ediv_le_self _ (by omega)
      have hnx0 := take_snoc he
      have hlan : ∃ ad, la = some ad := ⟨_, hl1.some (by omega)⟩
      repeat' (first | (refine OblP.mk ⟨by omega, by omega⟩ (W.mk ?_); (conv => whnf)) | (refine OblP.mk ?_ (W.mk ?_); (first | trivial | omega | (simp only [inR]; omega) | exact Nat.le_of_ble_eq_true (by rfl) | exact SlR.some (by assumption) (by omega)); (conv => whnf)) | (first | (refine RdP.at (by assumption) (by rfl) (W.mk ?_); (conv => whnf)) | (refine RdP.sub (by assumption) (by rfl) (W.mk ?_); (conv => whnf)) | (refine RdP.sub2 (by assumption) (by rfl) (W.mk ?_); (conv => whnf)) | (refine RdP.sub3 (by assumption) (by rfl) (W.mk ?_); (conv => whnf))))
      refine IteP.mk (fun _ => W.mk ?_) (fun h => absurd c1 h)
      (conv => whnf)
      refine RelP.g (ok1 rpRd Repo) (x := r) ⟨_, rfl, hrv, hf.repo⟩ (Grow.refl _) (fun v G5 h5 q5 => W.mk ?_)
      obtain ⟨_, _, rfl, _⟩ := id q5
      have hrv := rpRd.grow h5 hrv
      have hxv := rxRd.grow h5 hxv
      (conv => whnf)
      refine RelP.g (ok1 rxRd fun x => x.may.length ≤ 1000) (x := x) ⟨_, rfl, hxv, by have := hf.ml; omega⟩ (Grow.refl _) (fun v G6 h6 q6 => W.mk ?_)
      obtain ⟨_, rfl, _⟩ := id q6
      have hrv := rpRd.grow h6 hrv
      have hxv := rxRd.grow h6 hxv
      (conv => whnf)
      refine RelP.g (ok3 rpRd rxRd intRd fun _ _ _ => True) (x := (r, x, (i : Int))) ⟨_, _, _, rfl, rpRd.grow h6 q5, q6, rfl, trivial⟩ (Grow.refl _) (fun v G7 h7 q7 => W.mk ?_)
      subst q7
      dsimp only
      have hrv := rpRd.grow h7 hrv
      have hxv := rxRd.grow h7 hxv
      have h57 := (h5.trans h6).trans h7
      have hc := hc.grow h57
      rcases hI.at_ i e he with he1 | ⟨j, he1, hj1, hj2, hj3, hj4⟩
      · have hF : findF r x i = (0, 7) := by rw [hF0, if_neg (fun h => h.2.2 he1)]
        have ht : e.2.text = noText := by rw [c2, if_pos he1]
        have hnx : nxF ((pcF (rgOf r x)).take (i + 1)) = nxF ((pcF (rgOf r x)).take i) := by rw [hnx0, nxF_snoc, if_pos he1]
        rw [hF]
        rw [ht] at hc
        (conv => whnf)
        repeat' (first | (refine OblP.mk ?_ (W.mk ?_); (first | trivial | omega | (simp only [inR]; omega) | exact Nat.le_of_ble_eq_true (by rfl) | exact SlR.some (by assumption) (by omega)); (conv => whnf)) | (first | (refine RdP.at (by assumption) (by rfl) (W.mk ?_); (conv => whnf)) | (refine RdP.sub (by assumption) (by rfl) (W.mk ?_); (conv => whnf)) | (refine RdP.sub2 (by assumption) (by rfl) (W.mk ?_); (conv => whnf)) | (refine RdP.sub3 (by assumption) (by rfl) (W.mk ?_); (conv => whnf))))
        refine PurP.of _ (pur_eqT noText noText) (W.mk ?_)
        rw [decide_eq_true rfl]
        (conv => whnf)
        first | (refine ForkP.mk (fun _ => W.mk ?_) (fun h => by cases h); (conv => whnf)) | (refine ForkP.mk (fun _ => W.mk ?_) (fun h => by simp at h); (conv => whnf))
        refine IteP.mk (fun _ => W.mk ?_) (fun h => absurd rfl h)
        (conv => whnf)
        refine IteP.mk (fun hi0 => W.mk ?_) (fun hi0 => W.mk ?_) <;> (conv => whnf)
        · have hi0 : (0 : Int) < i := hi0
          obtain ⟨k, rfl⟩ : ∃ k, i = k + 1 := ⟨i - 1, by omega⟩
          obtain ⟨e', he'⟩ : ∃ e', (pcF (rgOf r x))[k]? = some e' := ⟨_, List.getElem?_eq_getElem (by omega)⟩
          have hne1 : e'.1 ≠ -1 := fun h => hI.gap k e' e he' he h he1
          have hne : e'.2.text ≠ noText := by
            rcases hI.at_ k e' he' with h | ⟨j, q1, q2, _⟩
            · exact absurd h hne1
            · have ht' : e'.2.text = r.words[j].text := by rw [(pcK_at (rgOf r x) _ k e' he').2, if_neg hne1, q1]; simp [rgOf, q2]
              rw [ht']
              intro h
              have hw := (hfine.w _ (List.getElem_mem q2)).2.1
              rw [h] at hw
              exact absurd hw (by decide)
          have hc' := elx G7 (ha.trans h57) k e' he'
          have hk1 : ((k + 1 : Nat) : Int) - 1 = k := by omega
          refine OblP.mk (by simp only [inR]; omega) (W.mk ?_)
          (conv => whnf)
          rw [hk1]
          repeat' (first | (refine OblP.mk ⟨by omega, by omega⟩ (W.mk ?_); (conv => whnf)) | (refine OblP.mk ?_ (W.mk ?_); (first | trivial | omega | (simp only [inR]; omega) | exact Nat.le_of_ble_eq_true (by rfl) | exact SlR.some (by assumption) (by omega)); (conv => whnf)) | (first | (refine RdP.at (by assumption) (by rfl) (W.mk ?_); (conv => whnf)) | (refine RdP.sub (by assumption) (by rfl) (W.mk ?_); (conv => whnf)) | (refine RdP.sub2 (by assumption) (by rfl) (W.mk ?_); (conv => whnf)) | (refine RdP.sub3 (by assumption) (by rfl) (W.mk ?_); (conv => whnf))))
          refine PurP.of _ (pur_eqT e'.2.text noText) (W.mk ?_)
          rw [decide_eq_false hne]
          (conv => whnf)
          first | (refine ForkP.mk (fun h => by cases h) (fun _ => W.mk ?_); (conv => whnf)) | (refine ForkP.mk (fun h => by simp at h) (fun _ => W.mk ?_); (conv => whnf))
          repeat' (first | (refine OblP.mk ?_ (W.mk ?_); (first | trivial | omega | (simp only [inR]; omega) | exact Nat.le_of_ble_eq_true (by rfl) | exact SlR.some (by assumption) (by omega)); (conv => whnf)) | (first | (refine RdP.at (by assumption) (by rfl) (W.mk ?_); (conv => whnf)) | (refine RdP.sub (by assumption) (by rfl) (W.mk ?_); (conv => whnf)) | (refine RdP.sub2 (by assumption) (by rfl) (W.mk ?_); (conv => whnf)) | (refine RdP.sub3 (by assumption) (by rfl) (W.mk ?_); (conv => whnf))))
          generalize hi' : k + 1 = i
          rw [hi'] at hnx
          refine RoundP.of (i + 1) (HeadP.of [] ⟨rfl, rfl, rfl, (by rw [hnx]; rfl), rfl, trivial⟩ ⟨rfl, rfl, trivial⟩) (by show i + 1 ≤ ln; omega) (by simp only; omega)
        · repeat' (first | (refine OblP.mk ?_ (W.mk ?_); (first | trivial | omega | (simp only [inR]; omega) | exact Nat.le_of_ble_eq_true (by rfl) | exact SlR.some (by assumption) (by omega)); (conv => whnf)) | (first | (refine RdP.at (by assumption) (by rfl) (W.mk ?_); (conv => whnf)) | (refine RdP.sub (by assumption) (by rfl) (W.mk ?_); (conv => whnf)) | (refine RdP.sub2 (by assumption) (by rfl) (W.mk ?_); (conv => whnf)) | (refine RdP.sub3 (by assumption) (by rfl) (W.mk ?_); (conv => whnf))))
          refine RoundP.of (i + 1) (HeadP.of [] ⟨rfl, rfl, rfl, (by rw [hnx]; rfl), rfl, trivial⟩ ⟨rfl, rfl, trivial⟩) (by show i + 1 ≤ ln; omega) (by simp only; omega)
      · have hF : findF r x i = ((j : Int), 0) := by rw [hF0, if_pos ⟨by omega, by omega, by omega⟩, he1]
        have ht : e.2.text = r.words[j].text := by rw [c2, if_neg (by omega), he1]; simp [rgOf, hj1]
        have hne : e.2.text ≠ noText := by
          rw [ht]
          intro h
          have hw := (hfine.w _ (List.getElem_mem hj1)).2.1
          rw [h] at hw
          exact absurd hw (by decide)
        have hnx : nxF ((pcF (rgOf r x)).take (i + 1)) = j + 1 := by rw [hnx0, nxF_snoc, if_neg (by omega), he1, Int.toNat_natCast]
        rw [hF]
        (conv => whnf)
        repeat' (first | (refine OblP.mk ?_ (W.mk ?_); (first | trivial | omega | (simp only [inR]; omega) | exact Nat.le_of_ble_eq_true (by rfl) | exact SlR.some (by assumption) (by omega)); (conv => whnf)) | (first | (refine RdP.at (by assumption) (by rfl) (W.mk ?_); (conv => whnf)) | (refine RdP.sub (by assumption) (by rfl) (W.mk ?_); (conv => whnf)) | (refine RdP.sub2 (by assumption) (by rfl) (W.mk ?_); (conv => whnf)) | (refine RdP.sub3 (by assumption) (by rfl) (W.mk ?_); (conv => whnf))))
        refine PurP.of _ (pur_eqT e.2.text noText) (W.mk ?_)
        rw [decide_eq_false hne]
        (conv => whnf)
        first | (refine ForkP.mk (fun h => by cases h) (fun _ => W.mk ?_); (conv => whnf)) | (refine ForkP.mk (fun h => by simp at h) (fun _ => W.mk ?_); (conv => whnf))
        refine IteP.mk (fun _ => W.mk ?_) (fun h => absurd rfl h)
        (conv => whnf)
        refine IteP.mk (fun h => by exfalso; omega) (fun _ => W.mk ?_)
        (conv => whnf)
        refine IteP.mk (fun h => by exfalso; omega) (fun _ => W.mk ?_)
        (conv => whnf)
        have hj2 : hidF r x (j : Int) = false := hj2
        refine ScaP.g (ok3 rpRd rxRd intRd fun r _ _ => ordB r) (x := (r, x, ((j : Nat) : Int))) ⟨_, _, _, rfl, hrv, hxv, rfl, (fine_ok hfine).1⟩ (fun v hv => W.mk ?_)
        dsimp only at hv
        rw [show hidF r x ((j : Nat) : Int) = false by assumption] at hv
        subst hv
        (conv => whnf)
        first | (refine ForkP.mk (fun h => by cases h) (fun _ => W.mk ?_); (conv => whnf)) | (refine ForkP.mk (fun h => by simp at h) (fun _ => W.mk ?_); (conv => whnf))
        obtain ⟨cs, _, hcw, hh, rfl, _⟩ := hwu1.at_ j hj1
        have hcw := hcw.grow (ha.trans h57)
        repeat' (first | (refine OblP.mk ⟨by omega, by omega⟩ (W.mk ?_); (conv => whnf)) | (refine OblP.mk ?_ (W.mk ?_); (first | trivial | omega | (simp only [inR]; omega) | exact Nat.le_of_ble_eq_true (by rfl) | exact SlR.some (by assumption) (by omega)); (conv => whnf)) | (first | (refine RdP.at (by assumption) (by rfl) (W.mk ?_); (conv => whnf)) | (refine RdP.sub (by assumption) (by rfl) (W.mk ?_); (conv => whnf)) | (refine RdP.sub2 (by assumption) (by rfl) (W.mk ?_); (conv => whnf)) | (refine RdP.sub3 (by assumption) (by rfl) (W.mk ?_); (conv => whnf))))
        refine PurP.of _ (pur_neT e.2.text r.words[j].text) (W.mk ?_)
        rw [decide_eq_true ht]
        (conv => whnf)
        first | (refine ForkP.mk (fun h => by cases h) (fun _ => W.mk ?_); (conv => whnf)) | (refine ForkP.mk (fun h => by simp at h) (fun _ => W.mk ?_); (conv => whnf))
        refine LoopP.of { α := Nat, fr := fun y => [(2, .c (.ptr 0 0)), (3, .c (.ptr 1 0)), (5, .v (.slice la ln lc)), (7, .v (I y)), (8, .v (I i)), (9, .v (I j))], H := fun _ => [(0, .cells .anon [.val (.slice wa wn wc), .val (.slice oa on oc), .val (I r.cols)] 25), (1, .cells .anon [.val (I x.year), .val (.slice ma mn mc)] 28)], ok := fun y _ => nxF ((pcF (rgOf r x)).take i) ≤ y ∧ y ≤ j, m := fun y => j - y }
          (nxF ((pcF (rgOf r x)).take i)) (HeadP.of [] ⟨rfl, rfl, rfl, rfl, rfl, rfl, trivial⟩ ⟨rfl, rfl, trivial⟩) ⟨Nat.le_refl _, hj3⟩ (fun _ => ⟨rfl, rfl⟩) (fun (y : Nat) Gb hb hyy => W.mk ?_)
        obtain ⟨hy1, hy2⟩ := hyy
        have hrv := rpRd.grow hb hrv
        have hxv := rxRd.grow hb hxv
        dsimp only
        (conv => whnf)
        refine IteP.mk (fun hlt2 => W.mk ?_) (fun hge2 => W.mk ?_) <;> (conv => whnf)
        · have hyh : hidF r x (y : Int) = true := hj4 y hy1 (by omega)
          refine ScaP.g (ok3 rpRd rxRd intRd fun r _ _ => ordB r) (x := (r, x, ((y : Nat) : Int))) ⟨_, _, _, rfl, hrv, hxv, rfl, (fine_ok hfine).1⟩ (fun v hv => W.mk ?_)
          dsimp only at hv
          rw [show hidF r x ((y : Nat) : Int) = true by assumption] at hv
          subst hv
          (conv => whnf)
          first | (refine ForkP.mk (fun _ => W.mk ?_) (fun h => by cases h); (conv => whnf)) | (refine ForkP.mk (fun _ => W.mk ?_) (fun h => by simp at h); (conv => whnf))
          repeat' (first | (refine OblP.mk ?_ (W.mk ?_); (first | trivial | omega | (simp only [inR]; omega) | exact Nat.le_of_ble_eq_true (by rfl) | exact SlR.some (by assumption) (by omega)); (conv => whnf)) | (first | (refine RdP.at (by assumption) (by rfl) (W.mk ?_); (conv => whnf)) | (refine RdP.sub (by assumption) (by rfl) (W.mk ?_); (conv => whnf)) | (refine RdP.sub2 (by assumption) (by rfl) (W.mk ?_); (conv => whnf)) | (refine RdP.sub3 (by assumption) (by rfl) (W.mk ?_); (conv => whnf))))
          refine RoundP.of (y + 1) (HeadP.of [] ⟨rfl, rfl, rfl, rfl, rfl, rfl, trivial⟩ ⟨rfl, rfl, trivial⟩) ⟨by omega, by omega⟩ (by simp only; omega)
        · obtain rfl : y = j := by omega
          repeat' (first | (refine OblP.mk ?_ (W.mk ?_); (first | trivial | omega | (simp only [inR]; omega) | exact Nat.le_of_ble_eq_true (by rfl) | exact SlR.some (by assumption) (by omega)); (conv => whnf)) | (first | (refine RdP.at (by assumption) (by rfl) (W.mk ?_); (conv => whnf)) | (refine RdP.sub (by assumption) (by rfl) (W.mk ?_); (conv => whnf)) | (refine RdP.sub2 (by assumption) (by rfl) (W.mk ?_); (conv => whnf)) | (refine RdP.sub3 (by assumption) (by rfl) (W.mk ?_); (conv => whnf))))
          refine RoundP.of (i + 1) (HeadP.of [] ⟨rfl, rfl, rfl, (by rw [hnx]; rfl), rfl, trivial⟩ ⟨rfl, rfl, trivial⟩) (by show i + 1 ≤ ln; omega) (by simp only; omega)
    · have hie : i = (pcF (rgOf r x)).length := by omega
      subst hie
      rw [List.take_length]
      refine LoopP.of { α := Nat, fr := fun y => [(2, .c (.ptr 0 0)), (3, .c (.ptr 1 0)), (7, .v (I y))], H := fun _ => [(0, .cells .anon [.val (.slice wa wn wc), .val (.slice oa on oc), .val (I r.cols)] 25), (1, .cells .anon [.val (I x.year), .val (.slice ma mn mc)] 28)], ok := fun y _ => nxF (pcF (rgOf r x)) ≤ y ∧ y ≤ wn, m := fun y => wn - y }
        (nxF (pcF (rgOf r x))) (HeadP.of [] ⟨rfl, rfl, rfl, trivial⟩ ⟨rfl, rfl, trivial⟩) ⟨Nat.le_refl _, by have := hI.tail.1; omega⟩ (fun _ => ⟨rfl, rfl⟩) (fun (y : Nat) Gb hb hyy => W.mk ?_)
      obtain ⟨hy1, hy2⟩ := hyy
      have hrv := rpRd.grow hb hrv
      have hxv := rxRd.grow hb hxv
      dsimp only
      (conv => whnf)
      refine IteP.mk (fun hlt2 => W.mk ?_) (fun hge2 => W.mk ?_) <;> (conv => whnf)
      · have hyh : hidF r x (y : Int) = true := hI.tail.2 y hy1 (by omega)
        refine ScaP.g (ok3 rpRd rxRd intRd fun r _ _ => ordB r) (x := (r, x, ((y : Nat) : Int))) ⟨_, _, _, rfl, hrv, hxv, rfl, (fine_ok hfine).1⟩ (fun v hv => W.mk ?_)
        dsimp only at hv
        rw [show hidF r x ((y : Nat) : Int) = true by assumption] at hv
        subst hv
        (conv => whnf)
        first | (refine ForkP.mk (fun _ => W.mk ?_) (fun h => by cases h); (conv => whnf)) | (refine ForkP.mk (fun _ => W.mk ?_) (fun h => by simp at h); (conv => whnf))
        repeat' (first | (refine OblP.mk ?_ (W.mk ?_); (first | trivial | omega | (simp only [inR]; omega) | exact Nat.le_of_ble_eq_true (by rfl) | exact SlR.some (by assumption) (by omega)); (conv => whnf)) | (first | (refine RdP.at (by assumption) (by rfl) (W.mk ?_); (conv => whnf)) | (refine RdP.sub (by assumption) (by rfl) (W.mk ?_); (conv => whnf)) | (refine RdP.sub2 (by assumption) (by rfl) (W.mk ?_); (conv => whnf)) | (refine RdP.sub3 (by assumption) (by rfl) (W.mk ?_); (conv => whnf))))
        refine RoundP.of (y + 1) (HeadP.of [] ⟨rfl, rfl, rfl, trivial⟩ ⟨rfl, rfl, trivial⟩) ⟨by omega, by omega⟩ (by simp only; omega)
      · refine ScaP.g okU (x := ()) rfl (fun v hv => W.mk ?_)
        subst hv
        (conv => whnf)
        first | exact FinP.mk rfl | (refine ForkP.mk (fun _ => W.mk ?_) (fun h => by cases h); (conv => whnf); exact FinP.mk rfl)
end Go.Proofs.Ytpcpjmplgladmaa
