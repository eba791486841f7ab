/- The drawn sitting, made. -/
import Derived.Test.YtcmhpndhloplpaaL1V
namespace Go.Proofs.Ytcmhpndhloplpaa
open Go.Pal

set_option maxRecDepth 100000

theorem sitting13 : Sound Try.prog 13 id (grel (args1 sitRd fun s => s.ps.length ≤ 1000) fun s v G => SitV G v s) := by
  refine comp13.grel (Tab.nil _) (ok1 _ _) (fun args G s h => ?_) (fun x v G G' hg h => sitRd.grow hg h) (fun args G s h => ?_)
  · obtain ⟨v, rfl, _⟩ := h; simp
  · obtain ⟨v, rfl, ⟨w, rfl, a, n, c, rfl, hl, hn⟩, hb⟩ := h
    have hlen := hl.len
    (conv => whnf)
    refine LoopP.of { α := Nat × Nat × List Value, fr := fun x => [(1, .c (.ptr 0 0)), (2, .c (.ptr 1 0)), (3, .c (.ptr 9 0)), (4, .v (I x.1))], H := fun x => [(0, .cells .anon [.val (I s.len), .val (.slice a n c), .val (I s.long), .val (I s.short)] 24), (1, .cells .anon [.val (I 0), .val (.slice none 0 0), .val (I 0), .val (I 0)] 32), (9, .cells .anon [.val (I s.len), .row 10 x.2.1, .val (I s.long), .val (I s.short)] 32), (10, .row none x.2.1 x.2.2 35 2)], ok := fun x _ => x.1 ≤ s.ps.length ∧ Row spanE (s.ps.take x.1) x.2.1 x.2.2, m := fun x => s.ps.length - x.1 }
      (0, 0, []) (HeadP.of [(10, none)] ⟨rfl, rfl, rfl, rfl, trivial⟩ ⟨rfl, rfl, rfl, rfl, trivial⟩) ⟨Nat.zero_le _, Row.nil⟩ (fun _ => ⟨rfl, rfl⟩) (fun x G' hG hx => W.mk ?_)
    obtain ⟨i, m, vs⟩ := x
    obtain ⟨hi, hr⟩ := hx
    dsimp only at hi hr
    dsimp only
    replace hl := SlR.grow (G := G) (G' := G') (fun _ _ h => h) hl hG
    have hm := hr.n
    simp only [List.length_take] at hm
    (conv => whnf)
    refine IteP.mk (fun hlt => W.mk ?_) (fun hge => W.mk ?_) <;> (conv => whnf)
    · have hlt : i < s.ps.length := by omega
      have hc := hl.el hlt
      repeat' (first | (refine OblP.mk ?_ (W.mk ?_); (first | trivial | omega | (simp only [inR]; omega) | exact Nat.le_of_ble_eq_true (by rfl) | exact SlR.some (by assumption) (by omega)); (conv => whnf)) | (first | (refine RdP.at (by assumption) (by rfl) (W.mk ?_); (conv => whnf)) | (refine RdP.sub (by assumption) (by rfl) (W.mk ?_); (conv => whnf)) | (refine RdP.sub2 (by assumption) (by rfl) (W.mk ?_); (conv => whnf)) | (refine RdP.sub3 (by assumption) (by rfl) (W.mk ?_); (conv => whnf))))
      have et : s.ps.take (i + 1) = s.ps.take i ++ [s.ps[i]] := List.take_succ_eq_append_getElem hlt
      exact RoundP.of (i + 1, m + 1, vs ++ [I s.ps[i].fr, I s.ps[i].to]) (HeadP.of [(10, some 33)] ⟨rfl, rfl, rfl, rfl, trivial⟩ ⟨rfl, rfl, rfl, rfl, trivial⟩) ⟨hlt, by show Row spanE (s.ps.take (i + 1)) _ _; rw [et]; exact hr.snoc _⟩ (by simp only; omega)
    · have : i = s.ps.length := by omega
      subst this
      rw [List.take_length] at hr
      refine PubP.mk (fun a1 c1 G1 hg1 hp => W.mk ?_)
      (conv => whnf)
      exact FinP.mk ⟨_, rfl, hr.pub hp (by omega)⟩
end Go.Proofs.Ytcmhpndhloplpaa
