/- The work: states given on, begun. -/
import Derived.Test.YtcmhpndhloplpaaL1K
namespace Go.Proofs.Ytcmhpndhloplpaa
open Go.Pal

set_option maxRecDepth 100000

def sttRd : Rd Stt := ⟨fun _ v s => v = s.val, fun {_ _ _ _} h h' => Stt.val_inj (h.symm.trans h'), fun {_ _ _ _} _ h => h⟩
def giveF (s : Stt) (i : Nat) : Stt := ⟨s.n + 1, s.had.set i s.n, by simp [s.five]⟩
theorem given55 : Sound Try.prog 55 id (gsca (args2 sttRd natRd fun s i => i < 5 ∧ s.n ≤ 1000000) fun x v => v = (giveF x.1 x.2).val) := by
  refine comp55.gsca tabK (fun args G s h => ?_) (fun args G x h => ?_)
  · obtain ⟨v, w, rfl, _⟩ := h; simp
  · obtain ⟨⟨n, l, h5⟩, i⟩ := x
    obtain ⟨v, w, rfl, rfl, rfl, hi, hn⟩ := h
    simp only at hi hn
    match l, h5 with
    | [a, b, c, d, e], _ =>
      have : i = 0 ∨ i = 1 ∨ i = 2 ∨ i = 3 ∨ i = 4 := by omega
      rcases this with rfl | rfl | rfl | rfl | rfl <;> (dsimp only; (conv => whnf); (refine OblP.mk ?_ (W.mk ?_); (first | trivial | omega | (simp only [inR]; omega) | exact Nat.le_of_ble_eq_true (by rfl) | exact SlR.some (by assumption) (by omega)); (conv => whnf)); (refine OblP.mk ?_ (W.mk ?_); (first | trivial | omega | (simp only [inR]; omega) | exact Nat.le_of_ble_eq_true (by rfl) | exact SlR.some (by assumption) (by omega)); (conv => whnf)); (refine OblP.mk ?_ (W.mk ?_); (first | trivial | omega | (simp only [inR]; omega) | exact Nat.le_of_ble_eq_true (by rfl) | exact SlR.some (by assumption) (by omega)); (conv => whnf)); refine FinP.mk ?_; rfl)
theorem Stt.cases (s : Stt) : ∃ n a b c d e h, s = ⟨n, [a, b, c, d, e], h⟩ := by
  obtain ⟨n, l, h⟩ := s
  match l, h with
  | [a, b, c, d, e], h => exact ⟨n, a, b, c, d, e, h, rfl⟩
def startF : Stt := ⟨0, [-1, -1, -1, -1, -1], rfl⟩
def beginF (l : List Int) : Stt := l.foldl (fun s i => giveF s i.toNat) startF
theorem begin_n : ∀ (l : List Int) (s : Stt), (l.foldl (fun s i => giveF s i.toNat) s).n = s.n + l.length
  | [], _ => rfl
  | x :: r, s => by rw [List.foldl_cons, begin_n r]; simp [giveF]; omega
theorem begin_snoc {l : List Int} {i : Nat} (h : i < l.length) : beginF (l.take (i + 1)) = giveF (beginF (l.take i)) l[i].toNat := by
  rw [beginF, List.take_succ_eq_append_getElem h, List.foldl_append]; rfl
def negC (x : Nat) : List S1 := .val (I 0) :: (List.replicate x (.val (I (-1))) ++ List.replicate (5 - x) (.val (I 0)))
theorem allBd_val {b : Nat} {l : List S1} (h : ∀ c ∈ l, ∃ v, c = .val v) : allBd b l = true := by
  induction l with
  | nil => rfl
  | cons c r ih =>
    obtain ⟨v, rfl⟩ := h c (by simp)
    exact ih fun c hc => h c (by simp [hc])
theorem negC_bd {b x : Nat} : allBd b (negC x) = true := allBd_val fun c hc => by
  simp only [negC, List.mem_cons, List.mem_append, List.mem_replicate] at hc
  rcases hc with rfl | ⟨_, rfl⟩ | ⟨_, rfl⟩ <;> exact ⟨_, rfl⟩
def tabL : Tab Try.prog := Tab.cons 55 _ given55 body55 (Tab.cons 48 _ worst48 body48 tabK)
theorem begin57 : Sound Try.prog 57 id (gsca (args1 (slRd intE) fun l => l.length ≤ 1000000 ∧ ∀ x ∈ l, 0 ≤ x ∧ x < 5) fun l v => v = (beginF l).val) := by
  refine comp57.gsca tabL (fun args G s h => ?_) (fun args G l h => ?_)
  · obtain ⟨v, rfl, _⟩ := h; simp
  · obtain ⟨v, rfl, ⟨a, n, c, rfl, hl, hn⟩, hmax, hr⟩ := h
    have hlen := hl.len
    (conv => whnf)
    refine LoopP.of { α := Nat, fr := fun x => [(0, .v (.slice a n c)), (2, .c (.ptr 0 0)), (3, .c (.ptr 1 0)), (7, .v (I x))], H := fun x => [(0, .cells .anon [.val (I 0), .val (I 0), .val (I 0), .val (I 0), .val (I 0), .val (I 0)] 110), (1, .cells .anon (negC x) 110)], ok := fun x _ => x ≤ 5, m := fun x => 5 - x }
      0 (HeadP.of [] ⟨rfl, rfl, rfl, rfl, trivial⟩ ⟨rfl, rfl, trivial⟩) (Nat.zero_le _) (fun x => ⟨rfl, by simp only [HBd, OB.bd, negC_bd]; rfl⟩) (fun (x : Nat) G' hG hx => W.mk ?_)
    dsimp only at hx
    dsimp only
    (conv => whnf)
    refine IteP.mk (fun hlt => W.mk ?_) (fun hge => W.mk ?_) <;> (conv => whnf)
    · have : x = 0 ∨ x = 1 ∨ x = 2 ∨ x = 3 ∨ x = 4 := by omega
      rcases this with rfl | rfl | rfl | rfl | rfl <;> (repeat ((refine OblP.mk ?_ (W.mk ?_); (first | trivial | omega | (simp only [inR]; omega) | exact Nat.le_of_ble_eq_true (by rfl) | exact SlR.some (by assumption) (by omega)); (conv => whnf)))) <;> (first | exact RoundP.of (1 : Nat) (HeadP.of [] ⟨rfl, rfl, rfl, rfl, trivial⟩ ⟨rfl, rfl, trivial⟩) (Nat.le_of_ble_eq_true rfl) (Nat.le_of_ble_eq_true rfl) | exact RoundP.of (2 : Nat) (HeadP.of [] ⟨rfl, rfl, rfl, rfl, trivial⟩ ⟨rfl, rfl, trivial⟩) (Nat.le_of_ble_eq_true rfl) (Nat.le_of_ble_eq_true rfl) | exact RoundP.of (3 : Nat) (HeadP.of [] ⟨rfl, rfl, rfl, rfl, trivial⟩ ⟨rfl, rfl, trivial⟩) (Nat.le_of_ble_eq_true rfl) (Nat.le_of_ble_eq_true rfl) | exact RoundP.of (4 : Nat) (HeadP.of [] ⟨rfl, rfl, rfl, rfl, trivial⟩ ⟨rfl, rfl, trivial⟩) (Nat.le_of_ble_eq_true rfl) (Nat.le_of_ble_eq_true rfl) | exact RoundP.of (5 : Nat) (HeadP.of [] ⟨rfl, rfl, rfl, rfl, trivial⟩ ⟨rfl, rfl, trivial⟩) (Nat.le_of_ble_eq_true rfl) (Nat.le_of_ble_eq_true rfl))
    · have : x = 5 := by omega
      subst this
      replace hl := SlR.grow (G := G) (G' := G') (fun _ _ h => h) hl hG
      clear hG hx hge
      refine LoopP.of { α := Nat × Nat × Int × Int × Int × Int × Int, fr := fun x => [(2, .c (.ptr 0 0)), (3, .c (.ptr 1 0)), (14, .v (.slice a n c)), (15, .v (I n)), (16, .v (I x.1))], H := fun x => [(0, .cells .anon [.val (I 0), .val (I 0), .val (I 0), .val (I 0), .val (I 0), .val (I 0)] 110), (1, .cells .anon [.val (I x.2.1), .val (I x.2.2.1), .val (I x.2.2.2.1), .val (I x.2.2.2.2.1), .val (I x.2.2.2.2.2.1), .val (I x.2.2.2.2.2.2)] 110)], ok := fun x _ => x.1 ≤ l.length ∧ x.2.1 = x.1 ∧ ∃ h, beginF (l.take x.1) = ⟨x.2.1, [x.2.2.1, x.2.2.2.1, x.2.2.2.2.1, x.2.2.2.2.2.1, x.2.2.2.2.2.2], h⟩, m := fun x => l.length - x.1 }
        (0, 0, -1, -1, -1, -1, -1) (HeadP.of [] ⟨rfl, rfl, rfl, rfl, rfl, trivial⟩ ⟨rfl, rfl, trivial⟩) ⟨Nat.zero_le _, rfl, rfl, rfl⟩ (fun _ => ⟨rfl, rfl⟩) (fun x G2 hG hx => W.mk ?_)
      obtain ⟨i, m, x1, x2, x3, x4, x5⟩ := x
      obtain ⟨hi, hm, h5, hb⟩ := hx
      dsimp only at hi hm hb
      replace hl := SlR.grow (G := G') (G' := G2) (fun _ _ h => h) hl hG
      dsimp only
      (conv => whnf)
      refine IteP.mk (fun hlt => W.mk ?_) (fun hge => W.mk ?_) <;> (conv => whnf)
      · have hlt : i < l.length := by omega
        have hc := hl.el hlt
        have hx := hr _ (List.getElem_mem hlt)
        repeat' (first | (refine OblP.mk ?_ (W.mk ?_); (first | trivial | omega | (simp only [inR]; omega) | exact Nat.le_of_ble_eq_true (by rfl) | exact SlR.some (by assumption) (by omega)); (conv => whnf)) | (first | (refine RdP.at (by assumption) (by rfl) (W.mk ?_); (conv => whnf)) | (refine RdP.sub (by assumption) (by rfl) (W.mk ?_); (conv => whnf)) | (refine RdP.sub2 (by assumption) (by rfl) (W.mk ?_); (conv => whnf)) | (refine RdP.sub3 (by assumption) (by rfl) (W.mk ?_); (conv => whnf))))
        refine ScaP.g (ok2 sttRd natRd fun s i => i < 5 ∧ s.n ≤ 1000000) (x := (beginF (l.take i), l[i].toNat)) ⟨_, _, rfl, by rw [hb]; rfl, by show I l[i] = I _; congr 1; omega, by simp only; omega, by rw [hb]; simp only; omega⟩ (fun v hv => W.mk ?_)
        have hs := begin_snoc hlt
        simp only [← hs] at hv
        obtain ⟨n', y1, y2, y3, y4, y5, h5', e⟩ := Stt.cases (beginF (l.take (i + 1)))
        have hn' : n' = i + 1 := by
          have := begin_n (l.take (i + 1)) startF
          have e2 := congrArg Stt.n e
          simp only [beginF] at e2
          rw [this] at e2
          simp [startF] at e2
          omega
        rw [e] at hv
        subst hv
        (conv => whnf)
        repeat' (refine OblP.mk ?_ (W.mk ?_); (first | trivial | omega | (simp only [inR]; omega) | exact Nat.le_of_ble_eq_true (by rfl) | exact SlR.some (by assumption) (by omega)); (conv => whnf))
        exact RoundP.of (i + 1, n', y1, y2, y3, y4, y5) (HeadP.of [] ⟨rfl, rfl, rfl, rfl, rfl, trivial⟩ ⟨rfl, rfl, trivial⟩) ⟨hlt, hn', h5', e⟩ (by simp only; omega)
      · have : i = l.length := by omega
        subst this
        rw [List.take_length] at hb
        repeat' (refine OblP.mk ?_ (W.mk ?_); (first | trivial | omega | (simp only [inR]; omega) | exact Nat.le_of_ble_eq_true (by rfl) | exact SlR.some (by assumption) (by omega)); (conv => whnf))
        refine FinP.mk ?_
        rw [hb]; rfl
end Go.Proofs.Ytcmhpndhloplpaa
