/- The program's sittings: the stretches, one after the other. -/
import Derived.Test.YtcmhpndhloplpaaL1E
namespace Go.Proofs.Ytcmhpndhloplpaa
open Go.Pal

set_option maxRecDepth 100000

def tabE : Tab Try.prog := Tab.cons 10 _ fault10 body10 (Tab.cons 70 _ clone70 body70 (Tab.cons 56 _ clone56 body56 tabD))

def walkF : Int → List Span → List Span
  | _, [] => []
  | fr, p :: r => (if fr < p.fr then [⟨fr, p.fr⟩] else []) ++ walkF p.to r
theorem walk_eq {len : Int} : ∀ {l : List Span} {fr : Int}, stretchesF len fr l = walkF fr (l ++ [⟨len, len⟩])
  | [], fr => by simp [stretchesF, walkF]
  | p :: r, fr => by simp [stretchesF, walkF, walk_eq (l := r)]
def spanV (p : Span) : List Value := [.agg #[I p.fr, I p.to]]
/-- A captured sitting. -/
def SitC (G : Hp) (b : Nat) (s : Sit) : Prop := ∃ w, CellsAt G b 0 [I s.len, w, I s.long, I s.short] ∧ SlV spanE G w s.ps
def strS (b : Nat) (s : Sit) : PSpec := .seq (fun l args G Ys => args = [.func (.yield l) #[] #[]] ∧ SitC G b s ∧ validF s = true ∧ Ys = (stretchesF s.len 0 s.ps).map spanV) (fun _ _ => True)
theorem str69 (b : Nat) (s : Sit) : Sound Try.prog 69 (fun args => (#[] : Array Value).toList ++ args ++ (#[.pointer (some ⟨b, 0, none⟩)] : Array Value).toList) (strS b s) := by
  refine comp69.seq (Tab.cons 61 _ long61 body61 tabE) (fun l args G Ys h => ?_) (fun l Y k args G Ys h hseg => ?_)
  · obtain ⟨rfl, _⟩ := h; simp
  · obtain ⟨rfl, ⟨w, hc, a, n, c, rfl, hl, hn⟩, hv, rfl⟩ := h
    obtain ⟨hv1, hv2, hv3, hv4⟩ := validF_iff.1 hv
    have hvl := valid_len hv
    have hm := spansOk_mem hv1
    have hlen := hl.len
    rw [walk_eq] at hseg ⊢
    (conv => whnf)
    repeat' (first | (refine OblP.mk ?_ (W.mk ?_); (first | trivial | omega | (simp only [inR]; omega) | exact Nat.le_of_ble_eq_true (by rfl) | exact SlR.some (by assumption) (by omega)); (conv => whnf)) | (refine RdP.at (by assumption) (by rfl) (W.mk ?_); (conv => whnf)) | (refine RdP.sub (by assumption) (by rfl) (W.mk ?_); (conv => whnf)) | (refine RdP.sub2 (by assumption) (by rfl) (W.mk ?_); (conv => whnf)) | (refine RdP.sub3 (by assumption) (by rfl) (W.mk ?_); (conv => whnf)) | (refine FinP.mk ?_))
    refine OwnP.g (ok1 (slRd spanE) fun l => l.length ≤ 8796093022207) (x := s.ps) ⟨_, rfl, ⟨a, n, c, rfl, hl, hn⟩, by omega⟩ (Grow.refl _) (fun n1 vs1 G1 hg1 hr => W.mk ?_)
    have hc1 := hc.grow hg1
    have hn1 := hr.n
    (conv => whnf)
    repeat' (first | (refine OblP.mk ?_ (W.mk ?_); (first | trivial | omega | (simp only [inR]; omega) | exact Nat.le_of_ble_eq_true (by rfl) | exact SlR.some (by assumption) (by omega)); (conv => whnf)) | (refine RdP.at (by assumption) (by rfl) (W.mk ?_); (conv => whnf)) | (refine RdP.sub (by assumption) (by rfl) (W.mk ?_); (conv => whnf)) | (refine RdP.sub2 (by assumption) (by rfl) (W.mk ?_); (conv => whnf)) | (refine RdP.sub3 (by assumption) (by rfl) (W.mk ?_); (conv => whnf)) | (refine FinP.mk ?_))
    have hr2 := hr.snoc ⟨s.len, s.len⟩ (us := [I s.len, I s.len])
    generalize hP : s.ps ++ [⟨s.len, s.len⟩] = ps' at hseg hr2
    have hm' : ∀ p ∈ ps', 0 ≤ p.fr ∧ p.fr ≤ 36000 ∧ 0 ≤ p.to ∧ p.to ≤ 36000 := fun p hp => by
      rw [← hP] at hp
      rcases List.mem_append.1 hp with hp | hp
      · have := hm p hp; omega
      · simp at hp; subst hp; simp; omega
    have hlen' : ps'.length = n1 + 1 := by rw [← hP]; simp; omega
    refine LoopP.of { α := Nat × Int × List Span, fr := fun x => [(0, .v (.func (.yield l) #[] #[])), (3, .v (I x.2.1)), (16, .c (.row 1 (n1 + 1))), (17, .v (I (n1 + 1 : Nat))), (18, .v (I x.1)), (POS, .c (.pos (k + x.2.2.length) false))], H := fun x => [(1, .row none (n1 + 1) (vs1 ++ [I s.len, I s.len]) 35 2)], ok := fun x _ => x.1 ≤ n1 + 1 ∧ 0 ≤ x.2.1 ∧ x.2.1 ≤ 36000 ∧ x.2.2 ++ walkF x.2.1 (ps'.drop x.1) = walkF 0 ps', m := fun x => n1 + 1 - x.1 }
      (0, 0, []) (HeadP.of [(1, some 10)] ⟨rfl, rfl, rfl, rfl, rfl, rfl, trivial⟩ ⟨rfl, trivial⟩) ⟨Nat.zero_le _, by simp, by simp, rfl⟩ (fun _ => ⟨rfl, rfl⟩) (fun x G' hG hx => W.mk ?_)
    obtain ⟨i, fr, out⟩ := x
    obtain ⟨hi, hf0, hf1, hx⟩ := hx
    simp only at hi hf0 hf1 hx
    dsimp only
    (conv => whnf)
    refine IteP.mk (fun hlt => W.mk ?_) (fun hge => W.mk ?_) <;> (conv => whnf)
    · have hlt : i < ps'.length := by omega
      have hp := hm' _ (List.getElem_mem hlt)
      rw [List.drop_eq_getElem_cons hlt, walkF] at hx
      repeat' (first | (refine OblP.mk ?_ (W.mk ?_); (first | trivial | omega | (simp only [inR]; omega) | exact Nat.le_of_ble_eq_true (by rfl) | exact SlR.some (by assumption) (by omega)); (conv => whnf)) | (refine RdP.at (by assumption) (by rfl) (W.mk ?_); (conv => whnf)) | (refine RdP.sub (by assumption) (by rfl) (W.mk ?_); (conv => whnf)) | (refine RdP.sub2 (by assumption) (by rfl) (W.mk ?_); (conv => whnf)) | (refine RdP.sub3 (by assumption) (by rfl) (W.mk ?_); (conv => whnf)) | (refine FinP.mk ?_))
      refine EqP.row hr2 hlt (W.mk ?_); (conv => whnf)
      refine OblP.mk ⟨_, _, rfl, by simp only [inR]; omega⟩ (W.mk ?_); (conv => whnf)
      refine IteP.mk (fun hf => W.mk ?_) (fun hf => W.mk ?_) <;> (conv => whnf)
      · refine CallvP.yl rfl (W.mk ?_); (conv => whnf)
        rw [if_pos (by omega), ← List.append_assoc] at hx
        refine YieldP.mk ?_ (fun G2 hg2 => W.mk ?_) (fun G2 hg2 => W.mk ?_)
        · rw [seg_get hseg (by rw [List.length_map, ← hx]; simp)]
          rw [← hx]
          simp [spanV]
        · (conv => whnf)
          repeat' (first | (refine OblP.mk ?_ (W.mk ?_); (first | trivial | omega | (simp only [inR]; omega) | exact Nat.le_of_ble_eq_true (by rfl) | exact SlR.some (by assumption) (by omega)); (conv => whnf)) | (refine RdP.at (by assumption) (by rfl) (W.mk ?_); (conv => whnf)) | (refine RdP.sub (by assumption) (by rfl) (W.mk ?_); (conv => whnf)) | (refine RdP.sub2 (by assumption) (by rfl) (W.mk ?_); (conv => whnf)) | (refine RdP.sub3 (by assumption) (by rfl) (W.mk ?_); (conv => whnf)) | (refine FinP.mk ?_))
          refine RoundP.of (i + 1, ps'[i].to, out ++ [⟨fr, ps'[i].fr⟩]) (HeadP.of [] ⟨rfl, rfl, rfl, rfl, rfl, ?_, trivial⟩ ⟨rfl, trivial⟩ (h5 := by show SV.c (.pos (k + out.length + 1) false) = SV.c (.pos (k + (out ++ [_]).length) false); simp [Nat.add_assoc])) ⟨by omega, by simp; omega, by simp; omega, by rw [← hx]⟩ (by simp only; omega)
          show SV.c (.pos (k + (out ++ [_]).length) false) = SV.c (.pos (k + out.length + 1) false)
          simp [Nat.add_assoc]
        · (conv => whnf)
          refine FinP.mk ⟨trivial, fun h => by cases h⟩
      · rw [if_neg (by omega), List.nil_append] at hx
        repeat' (first | (refine OblP.mk ?_ (W.mk ?_); (first | trivial | omega | (simp only [inR]; omega) | exact Nat.le_of_ble_eq_true (by rfl) | exact SlR.some (by assumption) (by omega)); (conv => whnf)) | (refine RdP.at (by assumption) (by rfl) (W.mk ?_); (conv => whnf)) | (refine RdP.sub (by assumption) (by rfl) (W.mk ?_); (conv => whnf)) | (refine RdP.sub2 (by assumption) (by rfl) (W.mk ?_); (conv => whnf)) | (refine RdP.sub3 (by assumption) (by rfl) (W.mk ?_); (conv => whnf)) | (refine FinP.mk ?_))
        exact RoundP.of (i + 1, ps'[i].to, out) (HeadP.of [] ⟨rfl, rfl, rfl, rfl, rfl, rfl, trivial⟩ ⟨rfl, trivial⟩) ⟨by omega, by simp; omega, by simp; omega, hx⟩ (by simp only; omega)
    · rw [List.drop_of_length_le (by omega), walkF, List.append_nil] at hx
      refine FinP.mk ⟨trivial, fun _ => ?_⟩
      rw [List.length_map, ← hx]
end Go.Proofs.Ytcmhpndhloplpaa
