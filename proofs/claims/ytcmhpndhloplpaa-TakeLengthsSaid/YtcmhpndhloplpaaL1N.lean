/- The least list, and how far any goes: plain. -/
import Derived.Test.YtcmhpndhloplpaaL1M
namespace Go.Proofs.Ytcmhpndhloplpaa
open Go.Pal

/-- May the one that is not out take the next. -/
def canF (x : Wk) (skip : Int) (s : Stt) (i : Nat) : Bool := !decide ((i : Int) = skip) && mayF x s i
def goF {α : Type} (x : Wk) (skip : Int) (s : Stt) (rec : Stt → Option (List α)) (f : Nat → α) : List Nat → Option (List α)
  | [] => none
  | i :: r => match canF x skip s i with
    | true => match rec (giveF s i) with
      | some e => some (f i :: e)
      | none => goF x skip s rec f r
    | false => goF x skip s rec f r
def crewL (x : Wk) : List Nat := List.range x.o.crew.length
def leastF (x : Wk) (skip : Int) : Nat → Stt → Option (List Int)
  | 0, _ => some []
  | f + 1, s => goF x skip s (leastF x skip f) (fun i => (i : Int)) (crewL x)
def farF (x : Wk) (skip : Int) (s : Stt) (rec : Stt → Nat) : List Nat → Nat
  | [] => s.n
  | i :: r => match canF x skip s i with
    | true => max (rec (giveF s i)) (farF x skip s rec r)
    | false => farF x skip s rec r
def reachF (x : Wk) (skip : Int) : Nat → Stt → Nat
  | 0, s => s.n
  | f + 1, s => farF x skip s (reachF x skip f) (crewL x)

variable {x : Wk} {skip : Int}

theorem farF_ge {s : Stt} {rec : Stt → Nat} : ∀ {l : List Nat}, s.n ≤ farF x skip s rec l
  | [] => Nat.le_refl _
  | i :: r => by
    have := farF_ge (s := s) (rec := rec) (l := r)
    unfold farF; split <;> omega
theorem reach_ge : ∀ {f : Nat} {s : Stt}, s.n ≤ reachF x skip f s
  | 0, _ => Nat.le_refl _
  | f + 1, _ => farF_ge
theorem reach_le : ∀ {f : Nat} {s : Stt}, reachF x skip f s ≤ s.n + f
  | 0, _ => Nat.le_refl _
  | f + 1, s => by
    have : ∀ l, farF x skip s (reachF x skip f) l ≤ s.n + (f + 1) := by
      intro l
      induction l with
      | nil => simp [farF]
      | cons i r ih =>
        have := reach_le (f := f) (s := giveF s i)
        simp only [giveF] at this
        unfold farF
        split
        · simp only [giveF] at *; omega
        · exact ih
    exact this _
theorem reach_full : ∀ {f : Nat} {s : Stt} {e : List Int}, leastF x skip f s = some e → reachF x skip f s = s.n + f ∧ e.length = f
  | 0, _, e, h => by cases h; exact ⟨rfl, rfl⟩
  | f + 1, s, e, h => by
    have key : ∀ l e, goF x skip s (leastF x skip f) (fun i => (i : Int)) l = some e → s.n + (f + 1) ≤ farF x skip s (reachF x skip f) l ∧ e.length = f + 1 := by
      intro l
      induction l with
      | nil => intro e h; cases h
      | cons i r ih =>
        intro e h
        unfold goF at h
        unfold farF
        split at h
        · rename_i hc
          split at h
          · rename_i e' he
            cases h
            have := reach_full he
            simp only [giveF] at this
            simp only [List.length_cons, this.2, and_true]
            have h1 := this.1
            simp only [giveF] at *
            omega
          · have := ih e h
            omega
        · rename_i hc
          exact ih e h
    obtain ⟨h1, h2⟩ := key _ _ h
    have := reach_le (x := x) (skip := skip) (f := f + 1) (s := s)
    have e : reachF x skip (f + 1) s = farF x skip s (reachF x skip f) (crewL x) := rfl
    exact ⟨by omega, h2⟩

/-- What is known of the dead states. -/
structure DeadOk (x : Wk) (skip : Int) (D : List Stt) (r : Nat) : Prop where
  out : ∀ d ∈ D, d.n < x.t.length → leastF x skip (x.t.length - d.n) d = none ∧ reachF x skip (x.t.length - d.n) d ≤ r
theorem DeadOk.mono {D : List Stt} {r r' : Nat} (h : DeadOk x skip D r) (hr : r ≤ r') : DeadOk x skip D r' := ⟨fun d hd hn => ⟨(h.out d hd hn).1, Nat.le_trans (h.out d hd hn).2 hr⟩⟩
theorem DeadOk.snoc {D : List Stt} {r : Nat} {s : Stt} (h : DeadOk x skip D r) (h1 : leastF x skip (x.t.length - s.n) s = none) (h2 : reachF x skip (x.t.length - s.n) s ≤ r) : DeadOk x skip (D ++ [s]) r := ⟨fun d hd hn => by
  rcases List.mem_append.1 hd with hd | hd
  · exact h.out d hd hn
  · simp at hd; subst hd; exact ⟨h1, h2⟩⟩

theorem HadOk.give {s : Stt} {i : Nat} (h : HadOk x s) (hn : s.n < x.t.length) : HadOk x (giveF s i) := by
  intro j hj
  simp only [giveF] at hj
  rcases List.mem_or_eq_of_mem_set hj with hj | rfl
  · exact h j hj
  · right; omega
theorem HadOk.ok {s : Stt} (h : HadOk x s) (hn : s.n ≤ x.t.length) (hb : x.t.length ≤ 140737488355328) : s.Ok := by
  refine ⟨by simp only [inR]; omega, fun j hj => ?_⟩
  rcases h j hj with h | h <;> simp only [inR] <;> omega
end Go.Proofs.Ytcmhpndhloplpaa
