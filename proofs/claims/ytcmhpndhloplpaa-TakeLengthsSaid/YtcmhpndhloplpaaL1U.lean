/- Helpers of the laws: the same lists; the chamber. -/
import Derived.Test.YtcmhpndhloplpaaL1T
namespace Go.Proofs.Ytcmhpndhloplpaa
open Go.Pal

set_option maxRecDepth 100000

theorem ints29 : Sound Try.prog 29 id (gsca (args2 (slRd intE) (slRd intE) fun _ _ => True) fun x v => v = .bool (decide (x.1 = x.2))) := by
  refine comp29.gsca (Tab.nil _) (fun args G s h => ?_) (fun args G x h => ?_)
  · obtain ⟨v, w, rfl, _⟩ := h; simp
  · obtain ⟨l, k⟩ := x
    obtain ⟨u, v, rfl, ⟨a, n, c, rfl, hl, hn⟩, ⟨a2, n2, c2, rfl, hl2, hn2⟩, _⟩ := h
    simp only at hl hl2
    have hlen := hl.len
    have hlen2 := hl2.len
    dsimp only
    (conv => whnf)
    refine IteP.mk (fun h => W.mk ?_) (fun h => W.mk ?_) <;> (conv => whnf)
    rotate_left
    · refine FinP.mk ?_
      have : l ≠ k := fun e => by subst e; omega
      show Value.bool false = .bool _
      rw [decide_eq_false this]
    refine LoopP.of { α := Nat, fr := fun x => [(0, .v (.slice a n c)), (1, .v (.slice a2 n2 c2)), (5, .v (I x))], H := fun _ => [], ok := fun x _ => x ≤ l.length ∧ (l = k ↔ l.drop x = k.drop x), m := fun x => l.length - x }
      0 (HeadP.of [] ⟨rfl, rfl, rfl, trivial⟩ trivial) ⟨Nat.zero_le _, Iff.rfl⟩ (fun _ => ⟨rfl, rfl⟩) (fun (x : Nat) G' hG hx => W.mk ?_)
    obtain ⟨hi, hx⟩ := hx
    replace hl := SlR.grow (G := G) (G' := G') (fun _ _ h => h) hl hG
    replace hl2 := SlR.grow (G := G) (G' := G') (fun _ _ h => h) hl2 hG
    (conv => whnf)
    refine IteP.mk (fun hlt => W.mk ?_) (fun hge => W.mk ?_) <;> (conv => whnf)
    · have hlt : x < l.length := by omega
      have hlt2 : x < k.length := by omega
      have hc := hl.el hlt
      have hc2 := hl2.el hlt2
      rw [List.drop_eq_getElem_cons hlt, List.drop_eq_getElem_cons hlt2, List.cons.injEq] at hx
      repeat' (first | (refine OblP.mk ?_ (W.mk ?_); (first | trivial | omega | (simp only [inR]; omega) | exact Nat.le_of_ble_eq_true (by rfl) | exact SlR.some (by assumption) (by omega)); (conv => whnf)) | (first | (refine RdP.at (by assumption) (by rfl) (W.mk ?_); (conv => whnf)) | (refine RdP.sub (by assumption) (by rfl) (W.mk ?_); (conv => whnf)) | (refine RdP.sub2 (by assumption) (by rfl) (W.mk ?_); (conv => whnf)) | (refine RdP.sub3 (by assumption) (by rfl) (W.mk ?_); (conv => whnf))))
      refine IteP.mk (fun h3 => W.mk ?_) (fun h3 => W.mk ?_) <;> (conv => whnf)
      · (refine OblP.mk ?_ (W.mk ?_); (first | trivial | omega | (simp only [inR]; omega) | exact Nat.le_of_ble_eq_true (by rfl) | exact SlR.some (by assumption) (by omega)); (conv => whnf))
        exact RoundP.of (x + 1) (HeadP.of [] ⟨rfl, rfl, rfl, trivial⟩ trivial) ⟨hlt, by rw [hx]; exact ⟨fun h => h.2, fun h => ⟨h3, h⟩⟩⟩ (by simp only; omega)
      · refine FinP.mk ?_
        show Value.bool false = .bool _
        rw [decide_eq_false (fun e => h3 (hx.1 e).1)]
    · refine FinP.mk ?_
      have : l = k := hx.2 (by rw [List.drop_eq_nil_of_le (by omega), List.drop_eq_nil_of_le (by omega)])
      show Value.bool true = .bool _
      rw [decide_eq_true this]
theorem spans34 : Sound Try.prog 34 id (gsca (args2 (slRd spanE) (slRd spanE) fun _ _ => True) fun x v => v = .bool (decide (x.1 = x.2))) := by
  refine comp34.gsca (Tab.nil _) (fun args G s h => ?_) (fun args G x h => ?_)
  · obtain ⟨v, w, rfl, _⟩ := h; simp
  · obtain ⟨l, k⟩ := x
    obtain ⟨u, v, rfl, ⟨a, n, c, rfl, hl, hn⟩, ⟨a2, n2, c2, rfl, hl2, hn2⟩, _⟩ := h
    simp only at hl hl2
    have hlen := hl.len
    have hlen2 := hl2.len
    dsimp only
    (conv => whnf)
    refine IteP.mk (fun h => W.mk ?_) (fun h => W.mk ?_) <;> (conv => whnf)
    rotate_left
    · refine FinP.mk ?_
      have : l ≠ k := fun e => by subst e; omega
      show Value.bool false = .bool _
      rw [decide_eq_false this]
    refine LoopP.of { α := Nat, fr := fun x => [(0, .v (.slice a n c)), (1, .v (.slice a2 n2 c2)), (5, .v (I x))], H := fun _ => [], ok := fun x _ => x ≤ l.length ∧ (l = k ↔ l.drop x = k.drop x), m := fun x => l.length - x }
      0 (HeadP.of [] ⟨rfl, rfl, rfl, trivial⟩ trivial) ⟨Nat.zero_le _, Iff.rfl⟩ (fun _ => ⟨rfl, rfl⟩) (fun (x : Nat) G' hG hx => W.mk ?_)
    obtain ⟨hi, hx⟩ := hx
    replace hl := SlR.grow (G := G) (G' := G') (fun _ _ h => h) hl hG
    replace hl2 := SlR.grow (G := G) (G' := G') (fun _ _ h => h) hl2 hG
    (conv => whnf)
    refine IteP.mk (fun hlt => W.mk ?_) (fun hge => W.mk ?_) <;> (conv => whnf)
    · have hlt : x < l.length := by omega
      have hlt2 : x < k.length := by omega
      have hc := hl.el hlt
      have hc2 := hl2.el hlt2
      rw [List.drop_eq_getElem_cons hlt, List.drop_eq_getElem_cons hlt2, List.cons.injEq] at hx
      have hsp : ∀ p q : Span, p = q ↔ p.fr = q.fr ∧ p.to = q.to := fun p q => by cases p; cases q; simp
      rw [hsp] at hx
      repeat' (first | (refine OblP.mk ?_ (W.mk ?_); (first | trivial | omega | (simp only [inR]; omega) | exact Nat.le_of_ble_eq_true (by rfl) | exact SlR.some (by assumption) (by omega)); (conv => whnf)) | (first | (refine RdP.at (by assumption) (by rfl) (W.mk ?_); (conv => whnf)) | (refine RdP.sub (by assumption) (by rfl) (W.mk ?_); (conv => whnf)) | (refine RdP.sub2 (by assumption) (by rfl) (W.mk ?_); (conv => whnf)) | (refine RdP.sub3 (by assumption) (by rfl) (W.mk ?_); (conv => whnf))))
      refine IteP.mk (fun h3 => W.mk ?_) (fun h3 => W.mk ?_) <;> (conv => whnf)
      · repeat' (first | (refine OblP.mk ?_ (W.mk ?_); (first | trivial | omega | (simp only [inR]; omega) | exact Nat.le_of_ble_eq_true (by rfl) | exact SlR.some (by assumption) (by omega)); (conv => whnf)) | (first | (refine RdP.at (by assumption) (by rfl) (W.mk ?_); (conv => whnf)) | (refine RdP.sub (by assumption) (by rfl) (W.mk ?_); (conv => whnf)) | (refine RdP.sub2 (by assumption) (by rfl) (W.mk ?_); (conv => whnf)) | (refine RdP.sub3 (by assumption) (by rfl) (W.mk ?_); (conv => whnf))))
        refine IteP.mk (fun h4 => W.mk ?_) (fun h4 => W.mk ?_) <;> (conv => whnf)
        · (refine OblP.mk ?_ (W.mk ?_); (first | trivial | omega | (simp only [inR]; omega) | exact Nat.le_of_ble_eq_true (by rfl) | exact SlR.some (by assumption) (by omega)); (conv => whnf))
          exact RoundP.of (x + 1) (HeadP.of [] ⟨rfl, rfl, rfl, trivial⟩ trivial) ⟨hlt, by rw [hx]; exact ⟨fun h => h.2, fun h => ⟨⟨h3, h4⟩, h⟩⟩⟩ (by simp only; omega)
        · refine FinP.mk ?_
          show Value.bool false = .bool _
          rw [decide_eq_false (fun e => h4 (hx.1 e).1.2)]
      · refine FinP.mk ?_
        show Value.bool false = .bool _
        rw [decide_eq_false (fun e => h3 (hx.1 e).1.1)]
    · refine FinP.mk ?_
      have : l = k := hx.2 (by rw [List.drop_eq_nil_of_le (by omega), List.drop_eq_nil_of_le (by omega)])
      show Value.bool true = .bool _
      rw [decide_eq_true this]
def chamberS : Sit := ⟨1000, [⟨400, 500⟩], 180, 60⟩
def chamberO : Off := ⟨[⟨0, 1, 60⟩, ⟨1, 2, 0⟩, ⟨0, 1, 300⟩], 400, 30⟩
theorem chamber28 : Sound Try.prog 28 id (grel (fun args _ (_ : Unit) => args = []) fun _ v G => ∃ u w, v = .tuple #[u, w] ∧ SitV G u chamberS ∧ OffV G w chamberO) := by
  refine comp28.grel (Tab.nil _) ⟨fun _ _ _ _ _ _ => rfl, fun _ _ _ _ _ h => h⟩ (fun args G s h => ?_) (fun x v G G' hg h => ?_) (fun args G x h => ?_)
  · rw [h]; simp
  · obtain ⟨u, w, h1, h2, h3⟩ := h; exact ⟨u, w, h1, sitRd.grow hg h2, offRd.grow hg h3⟩
  · rw [h]
    (conv => whnf)
    refine PubP.mk (fun a c G1 hg1 hp => W.mk ?_)
    (conv => whnf)
    refine PubP.mk (fun a2 c2 G2 hg2 hp2 => W.mk ?_)
    (conv => whnf)
    refine FinP.mk ⟨_, _, rfl, ⟨.slice a 1 c, rfl, ?_⟩, ⟨.slice a2 3 c2, rfl, ?_⟩⟩
    · exact SlV.grow hg2 (hp.slV (e := spanE) (l := [⟨400, 500⟩]) rfl rfl (by decide))
    · exact hp2.slV (e := repE) (l := [⟨0, 1, 60⟩, ⟨1, 2, 0⟩, ⟨0, 1, 300⟩]) rfl rfl (by decide)
end Go.Proofs.Ytcmhpndhloplpaa
