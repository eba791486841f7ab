/- The offices: valid. -/
import Derived.Test.YtcmhpndhloplpaaL1P
namespace Go.Proofs.Ytcmhpndhloplpaa
open Go.Pal

set_option maxRecDepth 100000

def tabQ : Tab Try.prog := Tab.cons 44 _ least44 body44 (Tab.cons 54 (.fn (fun _ _ => False) fun _ => undef) (fun _ _ _ _ h => h.elim) body54 tabP)
def repRd : Rd Rep := ⟨fun _ v p => v = .agg #[I p.lo, I p.hi, I p.rest], fun {_ _ x y} h h' => by rw [h] at h'; cases x; cases y; simp at h'; simp [h'], fun {_ _ _ _} _ h => h⟩
def fineR (r : Rep) : Bool := decide (0 ≤ r.lo ∧ r.lo ≤ r.hi ∧ r.hi ≤ 20) && inF r.rest 0 36000
theorem fine63 : Sound Try.prog 63 id (gsca (args1 repRd fun _ => True) fun r v => v = .bool (fineR r)) := by
  refine comp63.gsca tabP (fun args G s h => ?_) (fun args G r h => ?_)
  · obtain ⟨v, rfl, _⟩ := h; simp
  · obtain ⟨v, rfl, rfl, _⟩ := h
    (conv => whnf)
    repeat' (first | (refine IteP.mk (fun _ => W.mk ?_) (fun _ => W.mk ?_) <;> (conv => whnf)) | (refine OblP.mk ⟨_, _, _, rfl⟩ (W.mk ?_); (conv => whnf)) | (refine OblP.mk ?_ (W.mk ?_); (first | trivial | omega | (simp only [inR]; omega) | exact Nat.le_of_ble_eq_true (by rfl) | exact SlR.some (by assumption) (by omega)); (conv => whnf)) | (refine ForkP.mk (fun _ => W.mk ?_) (fun _ => W.mk ?_) <;> (conv => whnf)) | (refine FinP.mk ?_))
    all_goals (refine congrArg Value.bool ?_; simp [fineR, *] <;> omega)

theorem SoundFn.plain {g : FuncId} {s : PSpec} (hb : HasBody Try.prog g) (h : Sound Try.prog g id s) : SoundFn Try.prog (.func (.func g) #[] #[]) s := by
  refine SoundFn.of hb ?_
  have : (fun args : List Value => (#[] : Array Value).toList ++ args ++ (#[] : Array Value).toList) = id := by funext a; simp
  rw [this]; exact h
abbrev f63 : Value := .func (.func 63) #[] #[]
abbrev ledQ (b : Nat) : List LE := [⟨b, false, .cells [f63] 117⟩]
abbrev closV (b : Nat) : Value := .func (.func 68) #[] #[ptr b]
theorem finQ {H : Nat → Option OB} {b : Nat} (h : H 0 = some (.cells (.named b) [.val f63] 117)) : finL H 0 (ledQ b) [] := ⟨.cells [f63] 117, ⟨_, h, rfl⟩, trivial, rfl, rfl⟩
def notS (b : Nat) : PSpec := .st (fun args ls _ => (∃ r : Rep, args = [.agg #[I r.lo, I r.hi, I r.rest]]) ∧ ls = ledQ b) (fun args _ v ns _ => ∃ r : Rep, args = [.agg #[I r.lo, I r.hi, I r.rest]] ∧ v = .bool (!fineR r) ∧ ns = [])
theorem not68 (b : Nat) : Sound Try.prog 68 (fun a => (#[] : Array Value).toList ++ a ++ (#[ptr b] : Array Value).toList) (notS b) := by
  refine ⟨fun args ls v ns G G' hg h => h, fun args ls G Wd hsub hls hnd hpre => ?_⟩
  obtain ⟨⟨r, rfl⟩, rfl⟩ := hpre
  refine st_sound tabP comp68 (svs := [.agg [.val (I r.lo), .val (I r.hi), .val (I r.rest)], .c (.ptr 0 0)]) (obs := [.cells (.named b) [.val f63] 117]) (by simp) hsub hls hnd (Nat.le_refl _) ?_ ?_ ?_
  · refine ⟨⟨[I r.lo, I r.hi, I r.rest], rfl, relL_vals _ [I r.lo, I r.hi, I r.rest]⟩, fun c hc => ?_, ⟨_, rfl, rfl⟩, (Nat.le_of_ble_eq_true rfl : 0 < 1), trivial⟩
    simp at hc; rcases hc with rfl | rfl | rfl <;> trivial
  · refine ⟨⟨_, rfl, relL_vals _ [f63], ?_⟩, trivial⟩
    intro c hc; simp at hc; subst hc; trivial
  · (conv => whnf)
    refine CallvP.fn _ (SoundFn.plain body63 fine63) (W.mk ?_)
    (conv => whnf)
    refine ScaP.g (ok1 repRd fun _ => True) (x := r) ⟨_, rfl, rfl, trivial⟩ (fun v hv => W.mk ?_)
    subst hv
    (conv => whnf)
    refine ForkP.mk (fun hm => W.mk ?_) (fun hm => W.mk ?_) <;> (conv => whnf) <;> refine FinS.mk ⟨_, finQ rfl, r, rfl, ?_, rfl⟩ <;> rw [hm] <;> rfl

def idxF (l : List Rep) (k : Nat) : Int := match l with
  | [] => -1
  | r :: t => if fineR r then idxF t (k + 1) else (k : Int)
def idxS : PSpec := .st (fun args ls G => ∃ b, (∃ (w : Value) (l : List Rep), args = [w, closV b] ∧ SlV repE G w l) ∧ ls = ledQ b) (fun args _ v ns G => ∃ (b : Nat) (w : Value) (l : List Rep), args = [w, closV b] ∧ SlV repE G w l ∧ v = I (idxF l 0) ∧ ns = [])
theorem idx72 : Sound Try.prog 72 id idxS := by
  refine ⟨fun args ls v ns G G' hg h => ?_, fun args ls G Wd hsub hls hnd hpre => ?_⟩
  · obtain ⟨b, w, l, h1, h2, h3⟩ := h; exact ⟨b, w, l, h1, h2.grow hg, h3⟩
  obtain ⟨b, ⟨w, l, rfl, ⟨a, n, c, rfl, hl, hn⟩⟩, rfl⟩ := hpre
  refine st_sound tabP comp72 (svs := [.v (.slice a n c), .v (closV b)]) (obs := [.cells (.named b) [.val f63] 117]) (by simp) hsub hls hnd (Nat.le_refl _) ?_ ?_ ?_
  · exact ⟨rfl, trivial, rfl, trivial, trivial⟩
  · refine ⟨⟨_, rfl, relL_vals _ [f63], ?_⟩, trivial⟩
    intro c hc; simp at hc; subst hc; trivial
  · have hlen := hl.len
    (conv => whnf)
    refine LoopP.of { α := Nat, fr := fun x => [(0, .v (.slice a n c)), (1, .v (closV b)), (7, .v (I n)), (8, .v (I x))], H := fun _ => [(0, .cells (.named b) [.val f63] 117)], ok := fun x _ => x ≤ l.length ∧ idxF (l.drop x) x = idxF l 0, m := fun x => l.length - x }
      0 (HeadP.of [] ⟨rfl, rfl, rfl, rfl, trivial⟩ ⟨rfl, trivial⟩) ⟨Nat.zero_le _, rfl⟩ (fun _ => ⟨rfl, rfl⟩) (fun (x : Nat) G' hG hx => W.mk ?_)
    obtain ⟨hi, hx⟩ := hx
    replace hl := SlR.grow (G := G) (G' := G') (fun _ _ h => h) hl hG
    (conv => whnf)
    refine IteP.mk (fun hlt => W.mk ?_) (fun hge => W.mk ?_) <;> (conv => whnf)
    · have hlt : x < l.length := by omega
      have hc := hl.el hlt
      rw [List.drop_eq_getElem_cons hlt, idxF] at hx
      repeat' (first | (refine OblP.mk ?_ (W.mk ?_); (first | trivial | omega | (simp only [inR]; omega) | exact Nat.le_of_ble_eq_true (by rfl) | exact SlR.some (by assumption) (by omega)); (conv => whnf)) | (first | (refine RdP.at (by assumption) (by rfl) (W.mk ?_); (conv => whnf)) | (refine RdP.sub (by assumption) (by rfl) (W.mk ?_); (conv => whnf)) | (refine RdP.sub2 (by assumption) (by rfl) (W.mk ?_); (conv => whnf)) | (refine RdP.sub3 (by assumption) (by rfl) (W.mk ?_); (conv => whnf))))
      refine CallvP.fn _ (SoundFn.of body68 (not68 b)) (W.mk ?_)
      (conv => whnf)
      refine StP.mk ⟨[(0, ⟨b, false, .cells [f63] 117⟩)], ⟨⟨_, rfl, rfl⟩, trivial⟩, by simp, ⟨⟨l[x], rfl⟩, rfl⟩, fun v ns G3 hg3 hpost => W.mk ?_⟩
      obtain ⟨r, q1, rfl, rfl⟩ := hpost
      simp only [List.cons.injEq, and_true, Value.agg.injEq] at q1
      have hr : r = l[x] := (repRd.uniq (G := G) (v := .agg #[I l[x].lo, I l[x].hi, I l[x].rest]) rfl (congrArg Value.agg q1)).symm
      subst hr
      (conv => whnf)
      refine ForkP.mk (fun hm => W.mk ?_) (fun hm => W.mk ?_) <;> (conv => whnf)
      · refine FinS.mk ⟨_, finQ rfl, b, _, l, rfl, ⟨a, n, c, rfl, SlR.grow (G := G') (G' := G3) (fun _ _ h => h) hl hg3, hn⟩, ?_, rfl⟩
        rw [if_neg (by simpa using hm)] at hx
        rw [← hx]; rfl
      · (refine OblP.mk ?_ (W.mk ?_); (first | trivial | omega | (simp only [inR]; omega) | exact Nat.le_of_ble_eq_true (by rfl) | exact SlR.some (by assumption) (by omega)); (conv => whnf))
        rw [if_pos (by simpa using hm)] at hx
        exact RoundP.of (x + 1) (HeadP.of [] ⟨rfl, rfl, rfl, rfl, trivial⟩ ⟨rfl, trivial⟩) ⟨hlt, hx⟩ (by simp only; omega)
    · have : x = l.length := by omega
      subst this
      rw [List.drop_length] at hx
      refine FinS.mk ⟨_, finQ rfl, b, _, l, rfl, ⟨a, n, c, rfl, hl, hn⟩, ?_, rfl⟩
      rw [← hx]; rfl
theorem idxF_all : ∀ (l : List Rep) (k : Nat), decide (0 ≤ idxF l k) = !(l.all fineR)
  | [], k => rfl
  | r :: t, k => by
    unfold idxF
    cases hf : fineR r with
    | true => simp only [if_true, List.all_cons, hf, Bool.true_and]; exact idxF_all t _
    | false => simp [hf]
end Go.Proofs.Ytcmhpndhloplpaa
