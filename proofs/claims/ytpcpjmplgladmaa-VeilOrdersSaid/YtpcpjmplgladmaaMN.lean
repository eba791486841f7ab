/- Layer 9: the reference's useless orders, and its fewest. Layer 9: the fewest orders, and those that are useless: the program's and the reference's (plain). -/
import Derived.Test.YtpcpjmplgladmaaMK
import Derived.Laws.BitsLemmas
import Derived.Test.YtpcpjmplgladmaaML
import Derived.Shelf.Slices.Delete
set_option linter.unusedSimpArgs false
set_option linter.unusedVariables false
namespace Go.Proofs.Ytpcpjmplgladmaa
open Go.Pal Go.RowKit
set_option maxRecDepth 100000
theorem shl_by {i : Nat} (h : i ≤ 60) : ∀ w, ((POp.bin .shl 3).sem [I 1, U64 (i : Nat)]).run Try.prog w = .ok (I ((2 ^ i : Nat) : Int)) w := fun w => by
  have e : (POp.bin .shl 3).sem [I 1, U64 (i : Nat)] = (do eqGuard .shl 3 (.tmp 0) (.tmp 0) (I 1) (U64 (i : Nat)); Op.shift .shl .i64 1 .u64 i) := rfl
  rw [e, shift_shl .i64 .u64 1 (i : Nat) (by omega) (by show ((i : Nat) : Int) ≤ 64; omega)]
  have hp : 2 ^ i ≤ 2 ^ 60 := Nat.pow_le_pow_right (by omega) h
  have e2 : IntKind.i64.wrap (1 * 2 ^ ((i : Nat) : Int).toNat) = ((2 ^ i : Nat) : Int) := by
    rw [Int.one_mul, Int.toNat_natCast, show ((2 : Int) ^ i) = ((2 ^ i : Nat) : Int) by simp, IntKind.wrap_i64]
    generalize 2 ^ i = q at hp
    omega
  rw [e2]; rfl
def R66 (args : List Value) (G : Hp) (p : Rp × Rx × Nat) : Prop := ∃ u v, args = [u, v, I (p.2.2 : Nat)] ∧ RpV G u p.1 ∧ RxV G v p.2.1 ∧ RpOk p.1 ∧ p.1.orders.length ≤ 60
theorem ok66 : GOk R66 :=
  ⟨fun _ _ ⟨r, x, s⟩ ⟨r', x', s'⟩ ⟨u, v, h, h1, h2, _⟩ ⟨u', v', h', h1', h2', _⟩ => by
    rw [h] at h'
    simp only [List.cons.injEq, Value.int.injEq, and_true, true_and] at h'
    obtain ⟨e1, e2, e3⟩ := h'
    subst e1; subst e2
    have k1 : r = r' := rpRd.uniq h1 h1'
    have k2 : x = x' := rxRd.uniq h2 h2'
    have k3 : s = s' := by omega
    rw [k1, k2, k3],
   fun _ _ _ _ hg ⟨u, v, h, h1, h2, h3⟩ => ⟨u, v, h, rpRd.grow hg h1, rxRd.grow hg h2, h3⟩⟩
/-- All orders but one. -/
def butS (n i : Nat) : Nat := 2 ^ n - 1 - 2 ^ i
def uslK (r : Rp) (x : Rx) : Nat → List Int
  | 0 => []
  | i + 1 => if holdsF (r.orders.getD i ⟨0, 0, 0, 0⟩) x && sameF r x (butS r.orders.length i) then uslK r x i ++ [(i : Int)] else uslK r x i
theorem uslK_len (r : Rp) (x : Rx) : ∀ i, (uslK r x i).length ≤ i
  | 0 => by simp [uslK]
  | i + 1 => by
    have := uslK_len r x i
    simp only [uslK]
    split
    · simp; omega
    · omega
def uslF (r : Rp) (x : Rx) : List Int := uslK r x r.orders.length
theorem useless39 : Sound Try.prog 39 id (grel (args2 rpRd rxRd fun r _ => RpOk r ∧ r.orders.length ≤ 12) fun p v G => SlV intE G v (uslF p.1 p.2)) := by
  refine comp39.grel (Tab.cons 41 _ holds41 body41 (Tab.cons 66 _ same66 body66 (Tab.nil _))) (ok2 _ _ _) (fun args G s h => ?_) (fun x v G G' hg h => h.grow hg) (fun args G p h => ?_)
  · obtain ⟨v, w, rfl, _⟩ := h; simp
  · obtain ⟨r, x⟩ := p
    obtain ⟨u, v, rfl, hr, hx, hok, hol⟩ := h
    dsimp only at hr hx hok hol
    obtain ⟨rw_, ro, rfl, hrc⟩ := id hr
    obtain ⟨m, rfl, hm⟩ := id hx
    obtain ⟨oa, on, oc, rfl, ho1, ho2⟩ := id hrc.o
    obtain ⟨wa, wn, wc, rfl, hw1, hw2⟩ := id hrc.w
    obtain ⟨ma, mn, mc, rfl, hm1, hm2⟩ := id hm
    have hon := ho1.len
    have hr : rpRd.R G (.agg #[.slice wa wn wc, .slice oa on oc, I r.cols]) r := hr
    have hx : rxRd.R G (.agg #[I x.year, .slice ma mn mc]) x := hx
    dsimp only
    (conv => whnf)
    refine LoopP.of { α := Nat × Nat × List Value, fr := fun y => [(2, .c (.ptr 0 0)), (3, .c (.ptr 1 0)), (5, .c (.row 3 y.2.1)), (6, .v (I y.1))], H := fun y => [(0, .cells .anon [.val (.slice wa wn wc), .val (.slice oa on oc), .val (I r.cols)] 25), (1, .cells .anon [.val (I x.year), .val (.slice ma mn mc)] 28), (3, .row none y.2.1 y.2.2 3 1)], ok := fun y _ => y.1 ≤ on ∧ Row intE (uslK r x y.1) y.2.1 y.2.2, m := fun y => on - y.1 }
      (0, 0, []) (HeadP.of [(3, none)] ⟨rfl, rfl, rfl, rfl, trivial⟩ ⟨rfl, rfl, rfl, trivial⟩) ⟨Nat.zero_le _, Row.nil⟩ (fun _ => ⟨rfl, rfl⟩) (fun y G1 hg1 hxx => W.mk ?_)
    obtain ⟨i, n, vs⟩ := y
    obtain ⟨hi, hrow⟩ := hxx
    dsimp only at hi hrow
    have hrn := hrow.n
    have hsl := uslK_len r x i
    have hr := rpRd.grow hg1 hr
    have hx := rxRd.grow hg1 hx
    dsimp only
    (conv => whnf)
    refine IteP.mk (fun hlt => W.mk ?_) (fun hge => W.mk ?_) <;> (conv => whnf)
    · have hlt : i < r.orders.length := by omega
      have hc := (SlR.grow (G := G) (G' := G1) (fun _ _ h => h) ho1 hg1).el hlt
      have hsu : uslK r x (i + 1) = if holdsF (r.orders.getD i ⟨0, 0, 0, 0⟩) x && sameF r x (butS r.orders.length i) then uslK r x i ++ [(i : Int)] else uslK r x i := rfl
      have hgd : r.orders.getD i ⟨0, 0, 0, 0⟩ = r.orders[i] := by simp [hlt]
      rw [hgd] at hsu
      generalize r.orders[i] = o at hc hsu
      have hc : CellsAt G1 (ab oa) (ao oa + i * 4) [I o.f, I o.t, I o.k, I o.u] := hc
      have hp1 : 2 ^ on ≤ 2 ^ 12 := Nat.pow_le_pow_right (by omega) (by omega)
      have hp2 : 2 ^ i < 2 ^ on := Nat.pow_lt_pow_right (by omega) (by omega)
      have hp3 : 1 ≤ 2 ^ i := Nat.one_le_two_pow
      have hbut : (((2 ^ on : Nat) : Int) - 1) - ((2 ^ i : Nat) : Int) = ((butS r.orders.length i : Nat) : Int) := by
        rw [butS, hon]; omega
      repeat' (first | (refine OblP.mk ?_ (W.mk ?_); (first | trivial | omega | (simp only [inR]; omega) | exact Nat.le_of_ble_eq_true (by rfl) | exact SlR.some (by assumption) (by omega)); (conv => whnf)) | (first | (refine RdP.at (by assumption) (by rfl) (W.mk ?_); (conv => whnf)) | (refine RdP.sub (by assumption) (by rfl) (W.mk ?_); (conv => whnf)) | (refine RdP.sub2 (by assumption) (by rfl) (W.mk ?_); (conv => whnf)) | (refine RdP.sub3 (by assumption) (by rfl) (W.mk ?_); (conv => whnf))))
      refine ScaP.g (ok2 odRd rxRd fun _ _ => True) (x := (o, x)) ⟨_, _, rfl, rfl, hx, trivial⟩ (fun v hv => W.mk ?_)
      subst hv
      dsimp only
      (conv => whnf)
      refine ForkP.mk (fun hq => W.mk ?_) (fun hq => W.mk ?_) <;> (conv => whnf)
      · have hq : holdsF o x = true := hq
        rw [hq, Bool.true_and] at hsu
        repeat' (refine OblP.mk ?_ (W.mk ?_); (first | trivial | omega | (simp only [inR]; omega) | exact Nat.le_of_ble_eq_true (by rfl) | exact SlR.some (by assumption) (by omega)); (conv => whnf))
        refine PurP.of _ (shl_by (i := on) (by omega)) (W.mk ?_)
        (conv => whnf)
        refine OblP.mk (by simp only [inR]; omega) (W.mk ?_)
        (conv => whnf)
        repeat' (refine OblP.mk ?_ (W.mk ?_); (first | trivial | omega | (simp only [inR]; omega) | exact Nat.le_of_ble_eq_true (by rfl) | exact SlR.some (by assumption) (by omega)); (conv => whnf))
        refine PurP.of _ (shl_by (i := i) (by omega)) (W.mk ?_)
        (conv => whnf)
        refine OblP.mk (by simp only [inR]; omega) (W.mk ?_)
        (conv => whnf)
        rw [hbut]
        refine ScaP.g ok66 (x := (r, x, butS r.orders.length i)) ⟨_, _, rfl, hr, hx, hok, by show r.orders.length ≤ 60; omega⟩ (fun v hv => W.mk ?_)
        subst hv
        dsimp only
        (conv => whnf)
        refine ForkP.mk (fun hq2 => W.mk ?_) (fun hq2 => W.mk ?_) <;> (conv => whnf)
        · rw [if_pos hq2] at hsu
          repeat' (first | (refine OblP.mk rfl (W.mk ?_); (conv => whnf)) | (refine OblP.mk ?_ (W.mk ?_); (first | trivial | omega | (simp only [inR]; omega) | exact Nat.le_of_ble_eq_true (by rfl) | exact SlR.some (by assumption) (by omega)); (conv => whnf)) | (first | (refine RdP.at (by assumption) (by rfl) (W.mk ?_); (conv => whnf)) | (refine RdP.sub (by assumption) (by rfl) (W.mk ?_); (conv => whnf)) | (refine RdP.sub2 (by assumption) (by rfl) (W.mk ?_); (conv => whnf)) | (refine RdP.sub3 (by assumption) (by rfl) (W.mk ?_); (conv => whnf))))
          refine RoundP.of (i + 1, n + 1, vs ++ [I i]) (HeadP.of [(3, some 35)] ⟨rfl, rfl, rfl, rfl, trivial⟩ ⟨rfl, rfl, rfl, trivial⟩) ⟨by show i + 1 ≤ on; omega, ?_⟩ (by simp only; omega)
          dsimp only
          rw [hsu]
          exact hrow.snoc (i : Int)
        · rw [if_neg (by rw [hq2]; simp)] at hsu
          repeat' (first | (refine OblP.mk rfl (W.mk ?_); (conv => whnf)) | (refine OblP.mk ?_ (W.mk ?_); (first | trivial | omega | (simp only [inR]; omega) | exact Nat.le_of_ble_eq_true (by rfl) | exact SlR.some (by assumption) (by omega)); (conv => whnf)) | (first | (refine RdP.at (by assumption) (by rfl) (W.mk ?_); (conv => whnf)) | (refine RdP.sub (by assumption) (by rfl) (W.mk ?_); (conv => whnf)) | (refine RdP.sub2 (by assumption) (by rfl) (W.mk ?_); (conv => whnf)) | (refine RdP.sub3 (by assumption) (by rfl) (W.mk ?_); (conv => whnf))))
          refine RoundP.of (i + 1, n, vs) (HeadP.of [] ⟨rfl, rfl, rfl, rfl, trivial⟩ ⟨rfl, rfl, rfl, trivial⟩) ⟨by show i + 1 ≤ on; omega, ?_⟩ (by simp only; omega)
          dsimp only
          rw [hsu]
          exact hrow
      · have hq : holdsF o x = false := hq
        rw [hq, Bool.false_and, if_neg (by simp)] at hsu
        repeat' (first | (refine OblP.mk rfl (W.mk ?_); (conv => whnf)) | (refine OblP.mk ?_ (W.mk ?_); (first | trivial | omega | (simp only [inR]; omega) | exact Nat.le_of_ble_eq_true (by rfl) | exact SlR.some (by assumption) (by omega)); (conv => whnf)) | (first | (refine RdP.at (by assumption) (by rfl) (W.mk ?_); (conv => whnf)) | (refine RdP.sub (by assumption) (by rfl) (W.mk ?_); (conv => whnf)) | (refine RdP.sub2 (by assumption) (by rfl) (W.mk ?_); (conv => whnf)) | (refine RdP.sub3 (by assumption) (by rfl) (W.mk ?_); (conv => whnf))))
        refine RoundP.of (i + 1, n, vs) (HeadP.of [] ⟨rfl, rfl, rfl, rfl, trivial⟩ ⟨rfl, rfl, rfl, trivial⟩) ⟨by show i + 1 ≤ on; omega, ?_⟩ (by simp only; omega)
        dsimp only
        rw [hsu]
        exact hrow
    · have hie : i = r.orders.length := by omega
      refine PubP.mk (fun a1 c1 G9 hg9 hp => W.mk ?_)
      (conv => whnf)
      refine FinP.mk ?_
      rw [hie] at hrow
      exact hrow.pub hp (by omega)
/-- How many orders a set has. -/
def cntS (s k : Nat) : Nat := (List.range k).countP s.testBit
theorem cntS_succ (s k : Nat) : cntS s (k + 1) = cntS s k + (if s.testBit k then 1 else 0) := by
  rw [cntS, cntS, List.range_succ, List.countP_append]
  cases h : s.testBit k <;> simp [h]
theorem cntS_le (s : Nat) : ∀ k, cntS s k ≤ k := fun k => by
  have := List.countP_le_length (p := s.testBit) (l := List.range k)
  simpa [cntS] using this
/-- The least number of orders of the sets below one. -/
def bestK (r : Rp) (x : Rx) : Nat → Nat
  | 0 => r.orders.length
  | s + 1 => if cntS s r.orders.length < bestK r x s ∧ sameF r x s = true then cntS s r.orders.length else bestK r x s
theorem bestK_le (r : Rp) (x : Rx) : ∀ s, bestK r x s ≤ r.orders.length
  | 0 => Nat.le_refl _
  | s + 1 => by
    have := bestK_le r x s
    have := cntS_le s r.orders.length
    simp only [bestK]
    split <;> omega
theorem fewest40 : Sound Try.prog 40 id (gsca (args2 rpRd rxRd fun r _ => RpOk r ∧ r.orders.length ≤ 12) fun p v => v = I (bestK p.1 p.2 (2 ^ p.1.orders.length) : Nat)) := by
  refine comp40.gsca (Tab.cons 66 _ same66 body66 (Tab.nil _)) (fun args G s h => ?_) (fun args G p h => ?_)
  · obtain ⟨v, w, rfl, _⟩ := h; simp
  · obtain ⟨r, x⟩ := p
    obtain ⟨u, v, rfl, hr, hx, hok, hol⟩ := h
    dsimp only at hr hx hok hol
    obtain ⟨rw_, ro, rfl, hrc⟩ := id hr
    obtain ⟨m, rfl, hm⟩ := id hx
    obtain ⟨oa, on, oc, rfl, ho1, ho2⟩ := id hrc.o
    obtain ⟨wa, wn, wc, rfl, hw1, hw2⟩ := id hrc.w
    obtain ⟨ma, mn, mc, rfl, hm1, hm2⟩ := id hm
    have hon := ho1.len
    have hr : rpRd.R G (.agg #[.slice wa wn wc, .slice oa on oc, I r.cols]) r := hr
    have hx : rxRd.R G (.agg #[I x.year, .slice ma mn mc]) x := hx
    have hp1 : 2 ^ on ≤ 2 ^ 12 := Nat.pow_le_pow_right (by omega) (by omega)
    have hb0 : bestK r x 0 = on := hon
    dsimp only
    (conv => whnf)
    refine LoopP.of { α := Nat, fr := fun y => [(2, .c (.ptr 0 0)), (3, .c (.ptr 1 0)), (5, .v (I (bestK r x y : Nat))), (6, .v (I y))], H := fun y => [(0, .cells .anon [.val (.slice wa wn wc), .val (.slice oa on oc), .val (I r.cols)] 25), (1, .cells .anon [.val (I x.year), .val (.slice ma mn mc)] 28)], ok := fun y _ => y ≤ 2 ^ on, m := fun y => 2 ^ on - y }
      0 (HeadP.of [] ⟨rfl, rfl, (by rw [hb0]; rfl), rfl, trivial⟩ ⟨rfl, rfl, trivial⟩) (Nat.zero_le _) (fun _ => ⟨rfl, rfl⟩) (fun (s : Nat) G1 hg1 hxx => W.mk ?_)
    have hs : s ≤ 2 ^ on := hxx
    have hr := rpRd.grow hg1 hr
    have hx := rxRd.grow hg1 hx
    have hble := bestK_le r x s
    dsimp only
    (conv => whnf)
    repeat' (refine OblP.mk ?_ (W.mk ?_); (first | trivial | omega | (simp only [inR]; omega) | exact Nat.le_of_ble_eq_true (by rfl) | exact SlR.some (by assumption) (by omega)); (conv => whnf))
    refine PurP.of _ (shl_by (i := on) (by omega)) (W.mk ?_)
    (conv => whnf)
    refine IteP.mk (fun hlt => W.mk ?_) (fun hge => W.mk ?_) <;> (conv => whnf)
    · have hlt : s < 2 ^ on := by omega
      refine LoopP.of { α := Nat, fr := fun y => [(2, .c (.ptr 0 0)), (3, .c (.ptr 1 0)), (5, .v (I (bestK r x s : Nat))), (6, .v (I s)), (7, .v (I (cntS s y : Nat))), (8, .v (I y))], H := fun y => [(0, .cells .anon [.val (.slice wa wn wc), .val (.slice oa on oc), .val (I r.cols)] 25), (1, .cells .anon [.val (I x.year), .val (.slice ma mn mc)] 28)], ok := fun y _ => y ≤ on, m := fun y => on - y }
        0 (HeadP.of [] ⟨rfl, rfl, rfl, rfl, rfl, rfl, trivial⟩ ⟨rfl, rfl, trivial⟩) (Nat.zero_le _) (fun _ => ⟨rfl, rfl⟩) (fun (i : Nat) G2 hg2 hyy => W.mk ?_)
      have hi : i ≤ on := hyy
      have hr := rpRd.grow hg2 hr
      have hx := rxRd.grow hg2 hx
      have hcl := cntS_le s i
      dsimp only
      (conv => whnf)
      refine IteP.mk (fun hlt2 => W.mk ?_) (fun hge2 => W.mk ?_) <;> (conv => whnf)
      · have hbit := shr_bit s i
        have hcs := cntS_succ s i
        have hmod : ((s / 2 ^ i : Nat) : Int) % 2 = ((s / 2 ^ i % 2 : Nat) : Int) := by omega
        have hsum : ((cntS s i : Nat) : Int) + ((s / 2 ^ i : Nat) : Int) % 2 = ((cntS s (i + 1) : Nat) : Int) := by
          rw [hmod, hbit, hcs]
          split <;> simp
        have hcl2 := cntS_le s (i + 1)
        repeat' (refine OblP.mk ?_ (W.mk ?_); (first | trivial | omega | (simp only [inR]; omega) | exact Nat.le_of_ble_eq_true (by rfl) | exact SlR.some (by assumption) (by omega)); (conv => whnf))
        refine PurP.of _ (shr_by (s := s) (i := i) (by omega)) (W.mk ?_)
        (conv => whnf)
        refine OblP.mk ⟨by decide, Int.natCast_nonneg _⟩ (W.mk ?_)
        (conv => whnf)
        refine OblP.mk (by simp only [inR]; omega) (W.mk ?_)
        (conv => whnf)
        rw [hsum]
        repeat' (refine OblP.mk ?_ (W.mk ?_); (first | trivial | omega | (simp only [inR]; omega) | exact Nat.le_of_ble_eq_true (by rfl) | exact SlR.some (by assumption) (by omega)); (conv => whnf))
        exact RoundP.of (i + 1) (HeadP.of [] ⟨rfl, rfl, rfl, rfl, rfl, rfl, trivial⟩ ⟨rfl, rfl, trivial⟩) (by show i + 1 ≤ on; omega) (by simp only; omega)
      · obtain rfl : i = on := by omega
        have hsu : bestK r x (s + 1) = if cntS s r.orders.length < bestK r x s ∧ sameF r x s = true then cntS s r.orders.length else bestK r x s := rfl
        rw [hon] at hsu
        refine IteP.mk (fun hlt3 => W.mk ?_) (fun hge3 => W.mk ?_) <;> (conv => whnf)
        · have hlt3 : cntS s i < bestK r x s := by have hlt3 : ((cntS s i : Nat) : Int) < ((bestK r x s : Nat) : Int) := hlt3; omega
          refine ScaP.g ok66 (x := (r, x, s)) ⟨_, _, rfl, hr, hx, hok, by show r.orders.length ≤ 60; omega⟩ (fun v hv => W.mk ?_)
          subst hv
          dsimp only
          (conv => whnf)
          refine ForkP.mk (fun hq2 => W.mk ?_) (fun hq2 => W.mk ?_) <;> (conv => whnf)
          · rw [if_pos ⟨hlt3, hq2⟩] at hsu
            repeat' (first | (refine OblP.mk ?_ (W.mk ?_); (first | trivial | omega | (simp only [inR]; omega) | exact Nat.le_of_ble_eq_true (by rfl) | exact SlR.some (by assumption) (by omega)); (conv => whnf)) | (first | (refine RdP.at (by assumption) (by rfl) (W.mk ?_); (conv => whnf)) | (refine RdP.sub (by assumption) (by rfl) (W.mk ?_); (conv => whnf)) | (refine RdP.sub2 (by assumption) (by rfl) (W.mk ?_); (conv => whnf)) | (refine RdP.sub3 (by assumption) (by rfl) (W.mk ?_); (conv => whnf))))
            refine RoundP.of (s + 1) (HeadP.of [] ⟨rfl, rfl, (by rw [hsu]; rfl), rfl, trivial⟩ ⟨rfl, rfl, trivial⟩) (by show s + 1 ≤ 2 ^ i; omega) (by simp only; omega)
          · rw [if_neg (fun h => by rw [hq2] at h; cases h.2)] at hsu
            repeat' (first | (refine OblP.mk ?_ (W.mk ?_); (first | trivial | omega | (simp only [inR]; omega) | exact Nat.le_of_ble_eq_true (by rfl) | exact SlR.some (by assumption) (by omega)); (conv => whnf)) | (first | (refine RdP.at (by assumption) (by rfl) (W.mk ?_); (conv => whnf)) | (refine RdP.sub (by assumption) (by rfl) (W.mk ?_); (conv => whnf)) | (refine RdP.sub2 (by assumption) (by rfl) (W.mk ?_); (conv => whnf)) | (refine RdP.sub3 (by assumption) (by rfl) (W.mk ?_); (conv => whnf))))
            refine RoundP.of (s + 1) (HeadP.of [] ⟨rfl, rfl, (by rw [hsu]; rfl), rfl, trivial⟩ ⟨rfl, rfl, trivial⟩) (by show s + 1 ≤ 2 ^ i; omega) (by simp only; omega)
        · have hge3 : ¬ cntS s i < bestK r x s := by have hge3 : ¬ ((cntS s i : Nat) : Int) < ((bestK r x s : Nat) : Int) := hge3; omega
          rw [if_neg (fun h => hge3 h.1)] at hsu
          repeat' (first | (refine OblP.mk ?_ (W.mk ?_); (first | trivial | omega | (simp only [inR]; omega) | exact Nat.le_of_ble_eq_true (by rfl) | exact SlR.some (by assumption) (by omega)); (conv => whnf)) | (first | (refine RdP.at (by assumption) (by rfl) (W.mk ?_); (conv => whnf)) | (refine RdP.sub (by assumption) (by rfl) (W.mk ?_); (conv => whnf)) | (refine RdP.sub2 (by assumption) (by rfl) (W.mk ?_); (conv => whnf)) | (refine RdP.sub3 (by assumption) (by rfl) (W.mk ?_); (conv => whnf))))
          refine RoundP.of (s + 1) (HeadP.of [] ⟨rfl, rfl, (by rw [hsu]; rfl), rfl, trivial⟩ ⟨rfl, rfl, trivial⟩) (by show s + 1 ≤ 2 ^ i; omega) (by simp only; omega)
    · have hse : s = 2 ^ r.orders.length := by rw [hon]; omega
      subst hse
      exact FinP.mk rfl
end Go.Proofs.Ytpcpjmplgladmaa

namespace Go.Proofs.Ytpcpjmplgladmaa
open Go.Pal Go.RowKit
set_option maxRecDepth 100000
theorem sub_cons {α : Type} {a : α} {s : List α} : ∀ {l : List α}, (a :: s).Sublist l → ∃ j : Nat, l[j]? = some a ∧ s.Sublist (l.drop (j + 1))
  | [], h => by cases h
  | b :: l, h => by
    cases h with
    | cons _ h =>
      obtain ⟨j, h1, h2⟩ := sub_cons h
      exact ⟨j + 1, by simpa using h1, by simpa using h2⟩
    | cons_cons _ h => exact ⟨0, rfl, by simpa using h⟩
theorem cnF_iff {P : List Int → Bool} {l : List Int} : ∀ (f fr : Nat) (now : List Int), (cnF P l f fr now = true ↔ ∃ s : List Int, s.Sublist (l.drop fr) ∧ s.length = f ∧ P (now ++ s) = true)
  | 0, fr, now => by
    simp only [cnF]
    constructor
    · exact fun hp => ⟨[], List.nil_sublist _, rfl, by simpa using hp⟩
    · rintro ⟨s, _, hs, hp⟩
      rw [List.eq_nil_of_length_eq_zero hs, List.append_nil] at hp
      exact hp
  | f + 1, fr, now => by
    simp only [cnF, List.any_eq_true, List.mem_range'_1]
    constructor
    · rintro ⟨j, ⟨h1, h2⟩, hp⟩
      have hj : j < l.length := by omega
      obtain ⟨s, k1, k2, k3⟩ := (cnF_iff f (j + 1) _).1 hp
      have hgd : l.getD j 0 = l[j] := by simp [hj]
      rw [hgd] at k3
      refine ⟨l[j] :: s, ?_, by simp [k2], by simpa using k3⟩
      have h3 : (l[j] :: s).Sublist (l.drop j) := by rw [List.drop_eq_getElem_cons hj]; exact k1.cons_cons _
      have h4 : l.drop j = (l.drop fr).drop (j - fr) := by rw [List.drop_drop]; congr 1; omega
      rw [h4] at h3
      exact h3.trans (List.drop_sublist _ _)
    · rintro ⟨s, k1, k2, k3⟩
      cases s with
      | nil => simp at k2
      | cons a s =>
        obtain ⟨j, h1, h2⟩ := sub_cons k1
        rw [List.getElem?_drop] at h1
        obtain ⟨hj, he⟩ := List.getElem?_eq_some_iff.1 h1
        have hgd : l.getD (fr + j) 0 = a := by simp [he, hj]
        refine ⟨fr + j, ⟨by omega, by omega⟩, (cnF_iff f _ _).2 ⟨s, ?_, by simpa using k2, ?_⟩⟩
        · rw [List.drop_drop] at h2
          exact h2
        · rw [hgd]; simpa using k3
abbrev odAt (r : Rp) (j : Nat) : Od := r.orders.getD j ⟨0, 0, 0, 0⟩
def cov (o : Od) (i : Nat) : Bool := decide (o.f ≤ (i : Int)) && decide ((i : Int) < o.t)
theorem cov_in (o : Od) (i : Nat) : inF i o.f (o.t - 1) = cov o i := by
  rw [Bool.eq_iff_iff]
  simp only [inF, cov, decide_eq_true_eq, Bool.and_eq_true]
  omega
theorem odAt_mem {r : Rp} {o : Od} : o ∈ r.orders ↔ ∃ j : Nat, j < r.orders.length ∧ odAt r j = o := by
  rw [List.mem_iff_getElem]
  constructor
  · rintro ⟨j, hj, he⟩; exact ⟨j, hj, by simp [odAt, hj, he]⟩
  · rintro ⟨j, hj, he⟩; exact ⟨j, hj, by simpa [odAt, hj] using he⟩
theorem hid_iff (r : Rp) (x : Rx) (i : Nat) : hidF r x i = true ↔ ∃ j : Nat, j < r.orders.length ∧ holdsF (odAt r j) x = true ∧ cov (odAt r j) i = true := by
  simp only [hidF, List.any_eq_true, hidO, Bool.and_eq_true, cov_in]
  constructor
  · rintro ⟨o, ho, h⟩
    obtain ⟨j, hj, rfl⟩ := odAt_mem.1 ho
    exact ⟨j, hj, h⟩
  · rintro ⟨j, hj, h⟩
    exact ⟨_, odAt_mem.2 ⟨j, hj, rfl⟩, h⟩
theorem selK_iff (r : Rp) (s : Nat) (o : Od) : ∀ k, o ∈ selK r s k ↔ ∃ j : Nat, j < k ∧ s.testBit j = true ∧ odAt r j = o
  | 0 => by simp [selK]
  | k + 1 => by
    have ih := selK_iff r s o k
    simp only [selK]
    split
    · rename_i hb
      rw [List.mem_append, ih]
      constructor
      · rintro (⟨j, h1, h2⟩ | h)
        · exact ⟨j, by omega, h2⟩
        · simp only [List.mem_singleton] at h
          exact ⟨k, by omega, hb, h.symm⟩
      · rintro ⟨j, h1, h2, h3⟩
        by_cases hj : j = k
        · subst hj; exact .inr (by simpa using h3.symm)
        · exact .inl ⟨j, by omega, h2, h3⟩
    · rename_i hb
      rw [ih]
      constructor
      · rintro ⟨j, h1, h2⟩; exact ⟨j, by omega, h2⟩
      · rintro ⟨j, h1, h2, h3⟩
        have hj : j ≠ k := fun e => hb (e ▸ h2)
        exact ⟨j, by omega, h2, h3⟩
theorem sameF_iff (r : Rp) (x : Rx) (s : Nat) : sameF r x s = true ↔ ∀ i : Nat, i < r.words.length → hidF r x i = true → ∃ j : Nat, j < r.orders.length ∧ s.testBit j = true ∧ holdsF (odAt r j) x = true ∧ cov (odAt r j) i = true := by
  simp only [sameF, List.all_eq_true, List.mem_range, sameAt, Bool.or_eq_true, Bool.not_eq_true']
  refine forall_congr' fun i => forall_congr' fun _ => ?_
  have key : hidF (sel r s) x i = true ↔ ∃ j : Nat, j < r.orders.length ∧ s.testBit j = true ∧ holdsF (odAt r j) x = true ∧ cov (odAt r j) i = true := by
    simp only [hidF, List.any_eq_true, hidO, Bool.and_eq_true, cov_in]
    constructor
    · rintro ⟨o, ho, h⟩
      obtain ⟨j, hj, hb, rfl⟩ := (selK_iff r s o _).1 ho
      exact ⟨j, hj, hb, h⟩
    · rintro ⟨j, hj, hb, h⟩
      exact ⟨_, (selK_iff r s _ _).2 ⟨j, hj, hb, rfl⟩, h⟩
  rw [key]
  cases hidF r x i <;> simp
theorem hol_iff (r : Rp) (x : Rx) (k : Int) : k ∈ holF (rgOf r x) ↔ ∃ j : Nat, j < r.orders.length ∧ k = j ∧ holdsF (odAt r j) x = true := holK_iff (rgOf r x) _ k
theorem sameV_iff {r : Rp} (hf : Fine r) (x : Rx) {s : List Int} (hs : ∀ k ∈ s, k ∈ holF (rgOf r x)) : sameV (rgOf r x) s = true ↔ ∀ i : Nat, i < r.words.length → hidF r x i = true → ∃ k ∈ s, cov (odAt r k.toNat) i = true := by
  have hby : ∀ i : Nat, byF (rgOf r x) s i = true ↔ ∃ k ∈ s, cov (odAt r k.toNat) i = true := fun i => by
    rw [byF_eq, List.any_eq_true]; rfl
  have hp : ∀ i : Nat, (rgOf r x).p i = hidF r x i := fun _ => rfl
  simp only [sameV, List.all_eq_true, List.mem_range, hp]
  constructor
  · intro h i hi hh
    have hwl := hf.wl
    have := h i (by omega)
    rw [hh, beq_iff_eq] at this
    exact (hby i).1 this
  · intro h i hi
    rw [beq_iff_eq, Bool.eq_iff_iff, hby]
    constructor
    · rintro ⟨k, hk, hc⟩
      obtain ⟨j, hj, rfl, hh⟩ := (hol_iff r x k).1 (hs k hk)
      exact (hid_iff r x i).2 ⟨j, hj, hh, by simpa using hc⟩
    · intro hh
      refine h i ?_ hh
      obtain ⟨j, hj, _, hc⟩ := (hid_iff r x i).1 hh
      have ho := hf.o _ (odAt_mem.2 ⟨j, hj, rfl⟩)
      simp only [cov, Bool.and_eq_true, decide_eq_true_eq] at hc
      omega
theorem cntS_congr {s s' k : Nat} (h : ∀ j, j < k → s.testBit j = s'.testBit j) : cntS s k = cntS s' k := by
  rw [cntS, cntS]
  exact List.countP_congr fun j hj => by rw [h j (List.mem_range.1 hj)]
theorem set_of (g : Rg) : ∀ (k : Nat) (s : List Int), s.Sublist (holK g k) → ∃ S : Nat, S < 2 ^ k ∧ cntS S k = s.length ∧ ∀ j, j < k → (S.testBit j = true ↔ (j : Int) ∈ s)
  | 0, s, h => by
    have : s = [] := by simpa [holK] using h
    subst this
    exact ⟨0, by simp, rfl, fun j hj => by omega⟩
  | k + 1, s, h => by
    have hpow : 2 ^ (k + 1) = 2 ^ k + 2 ^ k := by rw [Nat.pow_succ]; omega
    have old : ∀ t : List Int, t.Sublist (holK g k) → ∃ S : Nat, S < 2 ^ (k + 1) ∧ cntS S (k + 1) = t.length ∧ ∀ j, j < k + 1 → (S.testBit j = true ↔ (j : Int) ∈ t) := fun t ht => by
      obtain ⟨S, h1, h2, h3⟩ := set_of g k t ht
      have hb := Nat.testBit_lt_two_pow h1
      refine ⟨S, by omega, by rw [cntS_succ, hb, h2]; simp, fun j hj => ?_⟩
      by_cases he : j = k
      · subst he
        rw [hb]
        refine ⟨fun e => (by cases e), fun e => ?_⟩
        have := holK_mem g j _ (ht.subset e)
        omega
      · exact h3 j (by omega)
    simp only [holK] at h
    split at h
    · obtain ⟨s1, s2, rfl, k1, k2⟩ := List.sublist_append_iff.1 h
      cases s2 with
      | nil => rw [List.append_nil]; exact old s1 k1
      | cons a t =>
        have hl := k2.length_le
        have ht : t = [] := List.eq_nil_of_length_eq_zero (by simp only [List.length_cons, List.length_nil] at hl; omega)
        subst ht
        have ha : a = (k : Int) := by
          have := k2.subset (List.mem_singleton.2 rfl)
          simpa using this
        subst ha
        obtain ⟨S, h1, h2, h3⟩ := set_of g k s1 k1
        have hb := Nat.testBit_lt_two_pow h1
        refine ⟨2 ^ k + S, by omega, ?_, fun j hj => ?_⟩
        · rw [cntS_succ, cntS_congr fun j hj => Nat.testBit_two_pow_add_gt hj S, Nat.testBit_two_pow_add_eq, hb, h2]; simp
        · by_cases he : j = k
          · subst he
            rw [Nat.testBit_two_pow_add_eq, hb]; simp
          · rw [Nat.testBit_two_pow_add_gt (by omega), h3 j (by omega)]
            simp only [List.mem_append, List.mem_singleton]
            exact ⟨.inl, fun h => h.resolve_right fun e => he (by omega)⟩
    · exact old s h
theorem list_of (g : Rg) (S : Nat) : ∀ k : Nat, ∃ s : List Int, s.Sublist (holK g k) ∧ s.length ≤ cntS S k ∧ ∀ j, j < k → S.testBit j = true → holdsF (g.r.orders.getD j ⟨0, 0, 0, 0⟩) g.x = true → (j : Int) ∈ s
  | 0 => ⟨[], List.nil_sublist _, Nat.zero_le _, fun j hj => by omega⟩
  | k + 1 => by
    obtain ⟨s, h1, h2, h3⟩ := list_of g S k
    have hc := cntS_succ S k
    simp only [holK]
    by_cases hh : holdsF (g.r.orders.getD k ⟨0, 0, 0, 0⟩) g.x = true
    · rw [if_pos hh]
      by_cases hb : S.testBit k = true
      · rw [hb] at hc
        simp only [if_true] at hc
        refine ⟨s ++ [(k : Int)], h1.append (List.Sublist.refl _), by simp; omega, fun j hj hb' hh' => ?_⟩
        by_cases he : j = k
        · subst he; simp
        · exact List.mem_append_left _ (h3 j (by omega) hb' hh')
      · refine ⟨s, h1.trans (List.sublist_append_left _ _), by omega, fun j hj hb' hh' => ?_⟩
        have he : j ≠ k := fun e => hb (e ▸ hb')
        exact h3 j (by omega) hb' hh'
    · rw [if_neg hh]
      refine ⟨s, h1, by omega, fun j hj hb' hh' => ?_⟩
      have he : j ≠ k := fun e => hh (e ▸ hh')
      exact h3 j (by omega) hb' hh'
theorem best_le {r : Rp} {x : Rx} {S : Nat} (hS : sameF r x S = true) : ∀ t, S < t → bestK r x t ≤ cntS S r.orders.length
  | 0, h => by omega
  | t + 1, h => by
    simp only [bestK]
    by_cases he : S = t
    · subst he
      split
      · omega
      · rename_i hn
        simp only [not_and] at hn
        exact Nat.le_of_not_lt fun h => hn h hS
    · have ih := best_le hS t (by omega)
      split <;> omega
theorem best_is (r : Rp) (x : Rx) : ∀ t, bestK r x t = r.orders.length ∨ ∃ S, S < t ∧ sameF r x S = true ∧ bestK r x t = cntS S r.orders.length
  | 0 => .inl rfl
  | t + 1 => by
    simp only [bestK]
    split
    · rename_i h; exact .inr ⟨t, by omega, h.2, rfl⟩
    · rcases best_is r x t with h | ⟨S, h1, h2, h3⟩
      · exact .inl h
      · exact .inr ⟨S, by omega, h2, h3⟩
theorem few_best {r : Rp} (hf : Fine r) (x : Rx) {m : Nat} (hm : IsFew (rgOf r x) m) : bestK r x (2 ^ r.orders.length) = m := by
  obtain ⟨s, k1, k2, k3⟩ := (cnF_iff _ _ _).1 hm.1
  rw [List.drop_zero] at k1
  rw [List.nil_append] at k3
  have hlow : ∀ t : List Int, t.Sublist (holF (rgOf r x)) → sameV (rgOf r x) t = true → m ≤ t.length := fun t h1 h2 => by
    refine Nat.le_of_not_lt fun hlt => ?_
    have := hm.2 _ hlt
    rw [(cnF_iff _ _ _).2 ⟨t, by rw [List.drop_zero]; exact h1, rfl, by simpa using h2⟩] at this
    cases this
  have hml : m ≤ r.orders.length := by
    have h1 := k1.length_le
    have h2 := holK_len (rgOf r x) (rgOf r x).r.orders.length
    have h3 : (holF (rgOf r x)).length ≤ r.orders.length := h2
    omega
  refine Nat.le_antisymm ?_ ?_
  · obtain ⟨S, h1, h2, h3⟩ := set_of (rgOf r x) _ s k1
    have h1 : S < 2 ^ r.orders.length := h1
    have h2 : cntS S r.orders.length = s.length := h2
    have hS : sameF r x S = true := (sameF_iff r x S).2 fun i hi hh => by
      obtain ⟨k, hk, hc⟩ := (sameV_iff hf x fun k hk => k1.subset hk).1 k3 i hi hh
      obtain ⟨j, hj, rfl, hh⟩ := (hol_iff r x k).1 (k1.subset hk)
      exact ⟨j, hj, (h3 j hj).2 hk, hh, by simpa using hc⟩
    have := best_le hS _ h1
    omega
  · rcases best_is r x (2 ^ r.orders.length) with h | ⟨S, _, h2, h3⟩
    · omega
    · obtain ⟨t, q1, q2, q3⟩ := list_of (rgOf r x) S r.orders.length
      have hv : sameV (rgOf r x) t = true := (sameV_iff hf x fun k hk => q1.subset hk).2 fun i hi hh => by
        obtain ⟨j, hj, hb, ho, hc⟩ := (sameF_iff r x S).1 h2 i hi hh
        exact ⟨(j : Int), q3 j hj hb ho, by simpa using hc⟩
      have := hlow t q1 hv
      omega
/-- The useless ones, as the program finds them. -/
def uslP (g : Rg) : Nat → List Int
  | 0 => []
  | i + 1 => if sameV g ((holF g).eraseIdx i) then uslP g i ++ [(holF g).getD i 0] else uslP g i
theorem holK_srt (g : Rg) : ∀ k, (holK g k).Pairwise (· < ·)
  | 0 => List.Pairwise.nil
  | k + 1 => by
    simp only [holK]
    split
    · rw [List.pairwise_append]
      exact ⟨holK_srt g k, List.pairwise_singleton _ _, fun a ha b hb => by simp at hb; have := holK_mem g k a ha; omega⟩
    · exact holK_srt g k
theorem holK_pre (g : Rg) (k : Nat) : ∀ d, ∃ t, holK g (k + d) = holK g k ++ t
  | 0 => ⟨[], by simp⟩
  | d + 1 => by
    obtain ⟨t, ht⟩ := holK_pre g k d
    show ∃ t, holK g (k + d + 1) = _
    simp only [holK]
    split
    · exact ⟨t ++ [((k + d : Nat) : Int)], by rw [ht, List.append_assoc]⟩
    · exact ⟨t, ht⟩
theorem but_bit {n i j : Nat} (hi : i < n) (hj : j < n) : (butS n i).testBit j = decide (j ≠ i) := by
  have h1 : 2 ^ i < 2 ^ n := Nat.pow_lt_pow_right (by omega) hi
  have h2 : butS n i = 2 ^ n - (2 ^ i + 1) := by rw [butS]; omega
  rw [h2, Nat.testBit_two_pow_sub_succ h1, Nat.testBit_two_pow]
  by_cases h : i = j
  · subst h; simp
  · simp [h, hj, show j ≠ i from fun e => h e.symm]
theorem usl_eq {r : Rp} (hf : Fine r) (x : Rx) : ∀ k, k ≤ r.orders.length → uslP (rgOf r x) (holK (rgOf r x) k).length = uslK r x k
  | 0, _ => rfl
  | k + 1, hk => by
    have ih := usl_eq hf x k (by omega)
    simp only [holK, uslK]
    by_cases hh : holdsF (odAt r k) x = true
    · have hh2 : holdsF ((rgOf r x).r.orders.getD k ⟨0, 0, 0, 0⟩) (rgOf r x).x = true := hh
      rw [if_pos hh2]
      obtain ⟨t, ht⟩ := holK_pre (rgOf r x) (k + 1) (r.orders.length - (k + 1))
      rw [show k + 1 + (r.orders.length - (k + 1)) = r.orders.length by omega] at ht
      simp only [holK] at ht
      rw [if_pos hh2] at ht
      have ht : holF (rgOf r x) = holK (rgOf r x) k ++ [(k : Int)] ++ t := ht
      generalize hL : (holK (rgOf r x) k).length = L at ih
      have hel : (holF (rgOf r x))[L]? = some (k : Int) := by
        rw [ht, List.append_assoc, List.getElem?_append_right (by omega), hL]; simp
      have hgd : (holF (rgOf r x)).getD L 0 = (k : Int) := by simp [hel]
      have hsrt := holK_srt (rgOf r x) (rgOf r x).r.orders.length
      have hsrt : (holF (rgOf r x)).Pairwise (· < ·) := hsrt
      have hmem : ∀ q : Int, q ∈ (holF (rgOf r x)).eraseIdx L ↔ q ∈ holF (rgOf r x) ∧ q ≠ k := fun q => by
        rw [List.mem_eraseIdx_iff_getElem?, List.mem_iff_getElem?]
        constructor
        · rintro ⟨i, h1, h2⟩
          refine ⟨⟨i, h2⟩, fun e => h1 ?_⟩
          subst e
          obtain ⟨i1, i2⟩ := List.getElem?_eq_some_iff.1 h2
          obtain ⟨l1, l2⟩ := List.getElem?_eq_some_iff.1 hel
          rcases Nat.lt_trichotomy i L with h | h | h
          · have := List.pairwise_iff_getElem.1 hsrt i L i1 l1 h
            omega
          · exact h
          · have := List.pairwise_iff_getElem.1 hsrt L i l1 i1 h
            omega
        · rintro ⟨⟨i, h2⟩, h1⟩
          refine ⟨i, fun e => h1 ?_, h2⟩
          subst e
          rw [hel] at h2
          exact (Option.some.inj h2).symm
      have hsame : sameV (rgOf r x) ((holF (rgOf r x)).eraseIdx L) = sameF r x (butS r.orders.length k) := by
        rw [Bool.eq_iff_iff, sameV_iff hf x fun q hq => ((hmem q).1 hq).1, sameF_iff]
        refine forall_congr' fun i => forall_congr' fun _ => forall_congr' fun _ => ⟨?_, ?_⟩
        · rintro ⟨q, hq, hc⟩
          obtain ⟨h1, h2⟩ := (hmem q).1 hq
          obtain ⟨j, hj, rfl, ho⟩ := (hol_iff r x q).1 h1
          exact ⟨j, hj, by rw [but_bit hk hj]; simp; omega, ho, by simpa using hc⟩
        · rintro ⟨j, hj, hb, ho, hc⟩
          rw [but_bit hk hj] at hb
          exact ⟨(j : Int), (hmem _).2 ⟨(hol_iff r x _).2 ⟨j, hj, rfl, ho⟩, by simp at hb; omega⟩, by simpa using hc⟩
      rw [List.length_append, hL, List.length_singleton]
      simp only [uslP]
      rw [hsame, hgd, ih]
      rw [show holdsF (r.orders.getD k ⟨0, 0, 0, 0⟩) x = true from hh, Bool.true_and]
    · have hh2 : ¬ holdsF ((rgOf r x).r.orders.getD k ⟨0, 0, 0, 0⟩) (rgOf r x).x = true := hh
      rw [if_neg hh2, ih, if_neg]
      rw [Bool.and_eq_true]
      exact fun h => hh h.1
theorem usl_F {r : Rp} (hf : Fine r) (x : Rx) : uslP (rgOf r x) (holF (rgOf r x)).length = uslF r x := usl_eq hf x _ (Nat.le_refl _)
end Go.Proofs.Ytpcpjmplgladmaa

/- Layer 9: the law VeilOrders, given the contract of Useless. -/
  namespace Go.Proofs.Ytpcpjmplgladmaa
open Go.Pal Go.RowKit
set_option maxRecDepth 100000
theorem law11 (hu : Sound Try.prog 36 id (grel (args2 rpRd rxRd fun _ _ => True) fun p v G => ∃ w, v = .tuple #[w, I (faultX p.1 p.2)] ∧ SlV intE G w (if faultX p.1 p.2 = 0 then uslF p.1 p.2 else []))) : Sound Try.prog 11 id (gsca (args2 ruRd xuRd fun _ _ => True) fun _ v => v = .bool true) := by
  refine comp11.gsca (Tab.cons 36 _ hu body36 (Tab.cons 39 _ useless39 body39 (Tab.cons 40 _ fewest40 body40 tabLw))) (fun args G s h => ?_) (fun args G p h => ?_)
  · obtain ⟨u, v, rfl, _⟩ := h; simp
  · obtain ⟨r, x⟩ := p
    obtain ⟨u, v, rfl, hr, hx, _⟩ := h
    dsimp only at hr hx
    obtain ⟨rw_, ro, rfl, ⟨wa, wn, wc, rfl, hwu1, hwu2⟩, ⟨oa, on, oc, rfl, hou1, hou2⟩⟩ := id hr
    obtain ⟨m, rfl, ⟨ma, mn, mc, rfl, hmu1, hmu2⟩⟩ := id hx
    try dsimp only
    (conv => whnf)
    refine ScaP.g (ok2 ruRd xuRd fun _ _ => True) (x := (r, x)) ⟨_, _, rfl, hr, hx, trivial⟩ (fun v hv => W.mk ?_)
    subst hv
    try dsimp only
    (conv => whnf)
    refine ForkP.mk (fun hfw => W.mk ?_) (fun hfw => W.mk ?_) <;> (conv => whnf)
    rotate_left
    · refine ScaP.g okU (x := ()) rfl (fun v hv => W.mk ?_)
      subst hv
      (conv => whnf)
      refine ForkP.mk (fun _ => W.mk ?_) (fun h => by cases h)
      (conv => whnf)
      exact FinP.mk rfl
    have hf := few_of hfw
    have hrv := hr.v hf
    have hxv := hx.v hf
    have htx : ∀ w ∈ r.words, w.text.size ≤ 1000 := fun w hw => by have := (hf.w w hw).1; omega
    have hon := hou1.len
    refine ScaP.g (ok1 rpRd _) (x := r) ⟨_, rfl, hrv, htx⟩ (fun v hv => W.mk ?_)
    subst hv
    (conv => whnf)
    refine IteP.mk (fun hf0 => W.mk ?_) (fun hf0 => W.mk ?_) <;> (conv => whnf)
    rotate_left
    · have h0 : ¬ faultX r x = 0 := fun h => hf0 (by
        unfold faultX at h
        split at h
        · assumption
        · exact h)
      refine RelP.g (ok1 rpRd Repo) (x := r) ⟨_, rfl, hrv, hf.repo⟩ (Grow.refl _) (fun v G1 h1 q1 => W.mk ?_)
      obtain ⟨_, _, rfl, _⟩ := id q1
      have hrv := rpRd.grow h1 hrv
      have hxv := rxRd.grow h1 hxv
      (conv => whnf)
      refine RelP.g (ok1 rxRd fun x => x.may.length ≤ 1000) (x := x) ⟨_, rfl, hxv, by have := hf.ml; omega⟩ (Grow.refl _) (fun v G2 h2 q2 => W.mk ?_)
      obtain ⟨_, rfl, _⟩ := id q2
      have hrv := rpRd.grow h2 hrv
      have hxv := rxRd.grow h2 hxv
      (conv => whnf)
      refine RelP.g (ok2 rpRd rxRd fun _ _ => True) (x := (r, x)) ⟨_, _, rfl, rpRd.grow h2 q1, q2, trivial⟩ (Grow.refl _) (fun v G3 h3 q3 => W.mk ?_)
      obtain ⟨wl, rfl, hL⟩ := q3
      dsimp only at hL ⊢
      rw [if_neg h0] at hL
      obtain ⟨la, ln, lc, rfl, hl1, _⟩ := id hL
      obtain rfl : 0 = ln := hl1.len
      have hrv := rpRd.grow h3 hrv
      have hxv := rxRd.grow h3 hxv
      (conv => whnf)
      refine RelP.g (ok1 rpRd Repo) (x := r) ⟨_, rfl, hrv, hf.repo⟩ (Grow.refl _) (fun v G4 h4 q4 => W.mk ?_)
      obtain ⟨_, _, rfl, _⟩ := id q4
      have hrv := rpRd.grow h4 hrv
      have hxv := rxRd.grow h4 hxv
      (conv => whnf)
      refine RelP.g (ok1 rxRd fun x => x.may.length ≤ 1000) (x := x) ⟨_, rfl, hxv, by have := hf.ml; omega⟩ (Grow.refl _) (fun v G5 h5 q5 => W.mk ?_)
      obtain ⟨_, rfl, _⟩ := id q5
      have hrv := rpRd.grow h5 hrv
      have hxv := rxRd.grow h5 hxv
      (conv => whnf)
      refine RelP.g (ok2 rpRd rxRd fun _ _ => True) (x := (r, x)) ⟨_, _, rfl, rpRd.grow h5 q4, q5, trivial⟩ (Grow.refl _) (fun v G6 h6 q6 => W.mk ?_)
      rcases q6 with ⟨_, rfl⟩ | ⟨h, _⟩
      rotate_left
      · exact absurd h h0
      dsimp only
      have hrv := rpRd.grow h6 hrv
      have hxv := rxRd.grow h6 hxv
      (conv => whnf)
      refine ScaP.g (ok2 rpRd rxRd _) (x := (r, x)) ⟨_, _, rfl, hrv, hxv, htx⟩ (fun v hv => W.mk ?_)
      subst hv
      dsimp only
      (conv => whnf)
      refine IteP.mk (fun h => absurd h h0) (fun _ => W.mk ?_)
      (conv => whnf)
      refine IteP.mk (fun _ => W.mk ?_) (fun h => absurd rfl h)
      (conv => whnf)
      refine IteP.mk (fun _ => W.mk ?_) (fun h => absurd rfl h)
      (conv => whnf)
      refine IteP.mk (fun _ => W.mk ?_) (fun h => absurd rfl h)
      (conv => whnf)
      refine IteP.mk (fun _ => W.mk ?_) (fun h => absurd rfl h)
      (conv => whnf)
      refine ScaP.g okU (x := ()) rfl (fun v hv => W.mk ?_)
      subst hv
      (conv => whnf)
      first | exact FinP.mk rfl | (refine ForkP.mk (fun _ => W.mk ?_) (fun h => by cases h); (conv => whnf); exact FinP.mk rfl)
    refine IteP.mk (fun h7 => W.mk ?_) (fun h7 => W.mk ?_) <;> (conv => whnf)
    · refine ScaP.g okU (x := ()) rfl (fun v hv => W.mk ?_)
      subst hv
      (conv => whnf)
      refine ForkP.mk (fun _ => W.mk ?_) (fun h => by cases h)
      (conv => whnf)
      exact FinP.mk rfl
    have h7 : on ≤ 7 := by have h7 : ¬ (7 : Int) < on := h7; omega
    by_cases h0 : faultX r x = 0
    rotate_left
    · refine RelP.g (ok1 rpRd Repo) (x := r) ⟨_, rfl, hrv, hf.repo⟩ (Grow.refl _) (fun v G1 h1 q1 => W.mk ?_)
      obtain ⟨_, _, rfl, _⟩ := id q1
      have hrv := rpRd.grow h1 hrv
      have hxv := rxRd.grow h1 hxv
      (conv => whnf)
      refine RelP.g (ok1 rxRd fun x => x.may.length ≤ 1000) (x := x) ⟨_, rfl, hxv, by have := hf.ml; omega⟩ (Grow.refl _) (fun v G2 h2 q2 => W.mk ?_)
      obtain ⟨_, rfl, _⟩ := id q2
      have hrv := rpRd.grow h2 hrv
      have hxv := rxRd.grow h2 hxv
      (conv => whnf)
      refine RelP.g (ok2 rpRd rxRd fun _ _ => True) (x := (r, x)) ⟨_, _, rfl, rpRd.grow h2 q1, q2, trivial⟩ (Grow.refl _) (fun v G3 h3 q3 => W.mk ?_)
      obtain ⟨wl, rfl, hL⟩ := q3
      dsimp only at hL ⊢
      rw [if_neg h0] at hL
      obtain ⟨la, ln, lc, rfl, hl1, _⟩ := id hL
      obtain rfl : 0 = ln := hl1.len
      have hrv := rpRd.grow h3 hrv
      have hxv := rxRd.grow h3 hxv
      (conv => whnf)
      refine RelP.g (ok1 rpRd Repo) (x := r) ⟨_, rfl, hrv, hf.repo⟩ (Grow.refl _) (fun v G4 h4 q4 => W.mk ?_)
      obtain ⟨_, _, rfl, _⟩ := id q4
      have hrv := rpRd.grow h4 hrv
      have hxv := rxRd.grow h4 hxv
      (conv => whnf)
      refine RelP.g (ok1 rxRd fun x => x.may.length ≤ 1000) (x := x) ⟨_, rfl, hxv, by have := hf.ml; omega⟩ (Grow.refl _) (fun v G5 h5 q5 => W.mk ?_)
      obtain ⟨_, rfl, _⟩ := id q5
      have hrv := rpRd.grow h5 hrv
      have hxv := rxRd.grow h5 hxv
      (conv => whnf)
      refine RelP.g (ok2 rpRd rxRd fun _ _ => True) (x := (r, x)) ⟨_, _, rfl, rpRd.grow h5 q4, q5, trivial⟩ (Grow.refl _) (fun v G6 h6 q6 => W.mk ?_)
      rcases q6 with ⟨_, rfl⟩ | ⟨h, _⟩
      rotate_left
      · exact absurd h h0
      dsimp only
      have hrv := rpRd.grow h6 hrv
      have hxv := rxRd.grow h6 hxv
      (conv => whnf)
      refine ScaP.g (ok2 rpRd rxRd _) (x := (r, x)) ⟨_, _, rfl, hrv, hxv, htx⟩ (fun v hv => W.mk ?_)
      subst hv
      dsimp only
      (conv => whnf)
      refine IteP.mk (fun h => absurd h h0) (fun _ => W.mk ?_)
      (conv => whnf)
      refine IteP.mk (fun _ => W.mk ?_) (fun h => absurd rfl h)
      (conv => whnf)
      refine IteP.mk (fun _ => W.mk ?_) (fun h => absurd rfl h)
      (conv => whnf)
      refine IteP.mk (fun _ => W.mk ?_) (fun h => absurd rfl h)
      (conv => whnf)
      refine IteP.mk (fun _ => W.mk ?_) (fun h => absurd rfl h)
      (conv => whnf)
      refine ScaP.g okU (x := ()) rfl (fun v hv => W.mk ?_)
      subst hv
      (conv => whnf)
      first | exact FinP.mk rfl | (refine ForkP.mk (fun _ => W.mk ?_) (fun h => by cases h); (conv => whnf); exact FinP.mk rfl)
    obtain ⟨hfine, hrx⟩ := faultX_fine h0
    refine RelP.g (ok1 rpRd Repo) (x := r) ⟨_, rfl, hrv, hf.repo⟩ (Grow.refl _) (fun v G1 h1 q1 => W.mk ?_)
    obtain ⟨_, _, rfl, _⟩ := id q1
    have hrv := rpRd.grow h1 hrv
    have hxv := rxRd.grow h1 hxv
    (conv => whnf)
    refine RelP.g (ok1 rxRd fun x => x.may.length ≤ 1000) (x := x) ⟨_, rfl, hxv, by have := hf.ml; omega⟩ (Grow.refl _) (fun v G2 h2 q2 => W.mk ?_)
    obtain ⟨_, rfl, _⟩ := id q2
    have hrv := rpRd.grow h2 hrv
    have hxv := rxRd.grow h2 hxv
    (conv => whnf)
    refine RelP.g (ok2 rpRd rxRd fun _ _ => True) (x := (r, x)) ⟨_, _, rfl, rpRd.grow h2 q1, q2, trivial⟩ (Grow.refl _) (fun v G3 h3 q3 => W.mk ?_)
    obtain ⟨wl, rfl, hL⟩ := q3
    dsimp only at hL ⊢
    rw [if_pos h0] at hL
    obtain ⟨la, ln, lc, rfl, hl1, _⟩ := id hL
    have hrv := rpRd.grow h3 hrv
    have hxv := rxRd.grow h3 hxv
    (conv => whnf)
    refine RelP.g (ok1 rpRd Repo) (x := r) ⟨_, rfl, hrv, hf.repo⟩ (Grow.refl _) (fun v G4 h4 q4 => W.mk ?_)
    obtain ⟨_, _, rfl, _⟩ := id q4
    have hrv := rpRd.grow h4 hrv
    have hxv := rxRd.grow h4 hxv
    (conv => whnf)
    refine RelP.g (ok1 rxRd fun x => x.may.length ≤ 1000) (x := x) ⟨_, rfl, hxv, by have := hf.ml; omega⟩ (Grow.refl _) (fun v G5 h5 q5 => W.mk ?_)
    obtain ⟨_, rfl, _⟩ := id q5
    have hrv := rpRd.grow h5 hrv
    have hxv := rxRd.grow h5 hxv
    (conv => whnf)
    refine RelP.g (ok2 rpRd rxRd fun _ _ => True) (x := (r, x)) ⟨_, _, rfl, rpRd.grow h5 q4, q5, trivial⟩ (Grow.refl _) (fun v G6 h6 q6 => W.mk ?_)
    rcases q6 with ⟨h, _⟩ | ⟨_, n, rfl, hfew⟩
    · exact absurd h0 h
    dsimp only at hfew ⊢
    have hbest := few_best hfine x hfew
    have hrv := rpRd.grow h6 hrv
    have hxv := rxRd.grow h6 hxv
    (conv => whnf)
    refine ScaP.g (ok2 rpRd rxRd _) (x := (r, x)) ⟨_, _, rfl, hrv, hxv, htx⟩ (fun v hv => W.mk ?_)
    subst hv
    dsimp only
    (conv => whnf)
    refine IteP.mk (fun _ => W.mk ?_) (fun h => absurd h0 h)
    (conv => whnf)
    refine IteP.mk (fun _ => W.mk ?_) (fun h => absurd h0 h)
    (conv => whnf)
    refine IteP.mk (fun _ => W.mk ?_) (fun h => absurd rfl h)
    (conv => whnf)
    refine RelP.g (ok2 rpRd rxRd fun r _ => RpOk r ∧ r.orders.length ≤ 12) (x := (r, x)) ⟨_, _, rfl, hrv, hxv, fine_ok hfine, hfine.ol⟩ (Grow.refl _) (fun v G7 h7 q7 => W.mk ?_)
    dsimp only at q7
    obtain ⟨ua, un, uc, rfl, _, _⟩ := id q7
    have hrv := rpRd.grow h7 hrv
    have hxv := rxRd.grow h7 hxv
    (conv => whnf)
    refine ScaP.g (ok2 (slRd intE) (slRd intE) fun _ _ => True) (x := (uslF r x, uslF r x)) ⟨_, _, rfl, (((hL.grow h4).grow h5).grow h6).grow h7, q7, trivial⟩ (fun v hv => W.mk ?_)
    dsimp only at hv
    subst hv
    (conv => whnf)
    refine ForkP.mk (fun _ => W.mk ?_) (fun h => by simp at h)
    (conv => whnf)
    refine ScaP.g (ok2 rpRd rxRd fun r _ => RpOk r ∧ r.orders.length ≤ 12) (x := (r, x)) ⟨_, _, rfl, hrv, hxv, fine_ok hfine, hfine.ol⟩ (fun v hv => W.mk ?_)
    dsimp only at hv
    rw [hbest] at hv
    subst hv
    (conv => whnf)
    refine IteP.mk (fun _ => W.mk ?_) (fun h => absurd rfl h)
    (conv => whnf)
    refine ScaP.g okU (x := ()) rfl (fun v hv => W.mk ?_)
    subst hv
    (conv => whnf)
    first | exact FinP.mk rfl | (refine ForkP.mk (fun _ => W.mk ?_) (fun h => by cases h); (conv => whnf); exact FinP.mk rfl)
end Go.Proofs.Ytpcpjmplgladmaa

/- Layer 9: slices.Clone, slices.Delete (the kit's contract laid at this program), the orders that are useless. -/
  namespace Go.Proofs.Ytpcpjmplgladmaa
open Go.Shelf
def deleteA_ren : Go.Shelf.Ren := ⟨fun | 23 => 63 | n => n, fun | 22 => 26 | 3 => 3 | 0 => 0 | 4 => 4 | n => n, fun | n => n⟩
theorem deleteA : Lays2.n23 Try.prog deleteA_ren := {
  mixed := by kernel_rfl
  f23 := Try.func63.trans (congrArg some (by kernel_rfl))
  t0 := Try.underlying0
  a0 := Try.isAgg0
  z0 := Try.sizeOf0
  v0 := Try.zeroValue0
  t3 := Try.underlying3
  a3 := Try.isAgg3
  z3 := Try.sizeOf3
  v3 := Try.zeroValue3
  t4 := Try.underlying4
  a4 := Try.isAgg4
  z4 := Try.sizeOf4
  v4 := Try.zeroValue4
  t22 := Try.underlying26
  a22 := Try.isAgg26
  z22 := Try.sizeOf26
  v22 := Try.zeroValue26
  i3 := by kernel_rfl }
end Go.Proofs.Ytpcpjmplgladmaa
namespace Go.Proofs.Ytpcpjmplgladmaa
open Go.Pal Go.RowKit
set_option maxRecDepth 100000
theorem und26c : Try.prog.underlying 26 = some (.slice 3) := by kernel_rfl
theorem clone64 : Sound Try.prog 64 id (gown 3 1 (args1 (slRd intE) fun l => l.length ≤ 8796093022207) fun l n vs => Row intE l n vs) := by
  refine comp64.gown (Tab.nil _) (ok1 _ _) (fun args G s h => ?_) (fun args G l h => ?_)
  · obtain ⟨v, rfl, _⟩ := h; simp
  · obtain ⟨v, rfl, ⟨a, n, c, rfl, hl, hn⟩, hb⟩ := h
    have hlen := hl.len
    obtain ⟨q1, q2, q3⟩ := hl.all
    (conv => whnf)
    refine PurP.of _ (pur_sl_nil und26c a n c 0 0) (W.mk ?_)
    (conv => whnf)
    refine ForkP.mk (fun hf => W.mk ?_) (fun hf => W.mk ?_) <;> (conv => whnf)
    · refine OwnFin.mk ?_
      have : l = [] := by
        by_cases h0 : n = 0
        · exact List.eq_nil_of_length_eq_zero (by omega)
        · have := hl.some h0; rw [this] at hf; cases hf
      subst this; exact Row.nil
    · refine OblP.mk (fun h => hl.some h) (W.mk ?_); (conv => whnf)
      refine RdP.at q1 q2 (W.mk ?_); (conv => whnf)
      refine OblP.mk q3 (W.mk ?_); (conv => whnf)
      refine OblP.mk rfl (W.mk ?_); (conv => whnf)
      refine OblP.mk (by omega) (W.mk ?_); (conv => whnf)
      refine OwnFin.mk ⟨rfl, rfl, rfl, ?_⟩
      simp only [Nat.zero_add, List.nil_append]
      exact Row.of_all l hlen
/-- What slices.Delete leaves. -/
def delRes (n : Nat) (vs us : List Value) : Nat × List Value := match us with
  | [.int _ i, .int _ j] => (n - (j.toNat - i.toNat), vs.take i.toNat ++ vs.drop j.toNat)
  | _ => (n, vs)
def delPre (_ : Nat) (vs us : List Value) : Prop := ∃ (l : List Int) (i : Nat), vs = l.map I ∧ us = [I i, I ((i : Int) + 1)] ∧ i < l.length
theorem delete63 : Sound Try.prog 63 id (.cut 3 1 delPre delRes) := by
  intro v n vs us W hown hone hpre
  obtain ⟨l, i, rfl, rfl, hi⟩ := hpre
  have hn : l.length = n := by have := hown.1; simpa using this
  rcases hown.2 with ⟨_, h0⟩ | ⟨g, cap, cur, rfl, _, hw, hnc, hcm, hsz, htake⟩
  · omega
  simp only [Nat.mul_one] at hsz htake
  have hcur : ∀ j, j < l.length → cur[j]? = some (I (l.getD j 0)) := fun j hj => by
    have : (cur.toList.take n)[j]? = (l.map I)[j]? := by rw [htake]
    rw [List.getElem?_take, if_pos (by omega)] at this
    rw [← Array.getElem?_toList, this, List.getElem?_map, List.getElem?_eq_getElem hj]
    simp [hj]
  have hH : Sort.Holds (Value.int .i64) W g 0 l.toArray := fun j hj => by
    have hj : j < l.length := by simpa using hj
    constructor
    · simp only [World.cell?, Nat.zero_add, hw, hcur j hj]
      simp [hj, I]
    · simp [World.frozen?, hw]
  have h := Any.slices_Delete_int deleteA g 0 cap i (i + 1) l W hH (by omega) hcm (by omega) hi
  have ea : (id (Value.slice (some ⟨g, 0, none⟩) n cap :: [I i, I ((i : Int) + 1)])).toArray = #[.slice (some ⟨g, 0, none⟩) l.length cap, .int .i64 i, .int .i64 (i + 1 : Nat)] := by
    rw [hn]; simp [I]
  rw [ea]
  refine Calls.mono h ?_
  rintro e W' ⟨rfl, q, rfl⟩
  obtain ⟨d, hd⟩ : ∃ d, d = (l.take i ++ l.drop (i + 1) ++ List.replicate (i + 1 - i) 0).toArray := ⟨_, rfl⟩
  have hds : d.size = l.length := by rw [hd]; simp; omega
  have hdg : ∀ j, j < l.length - 1 → d[j]! = (l.take i ++ l.drop (i + 1)).getD j 0 := fun j hj => by
    have hl2 : (l.take i ++ l.drop (i + 1)).length = l.length - 1 := by simp; omega
    rw [getElem!_pos d j (by omega)]
    have : d[j]? = (l.take i ++ l.drop (i + 1))[j]? := by rw [hd, List.getElem?_toArray, List.getElem?_append_left (by omega)]
    rw [Array.getElem?_eq_getElem (by omega)] at this
    rw [List.getD_eq_getElem?_getD, ← this]; rfl
  rw [← hd]
  have hheap : ∀ k, (Sort.putRow (Value.int .i64) (Sort.ahead W q) g 0 d).heap[k]? = if g = k then some (.cells (Sort.putCells (Value.int .i64) 0 d cur) 3 (0, 0)) else W.heap[k]? := fun k => by
    simp only [Sort.putRow, Sort.mapBlock, Sort.ahead, Array.getElem?_modify]
    by_cases hk : g = k
    · subst hk; rw [if_pos rfl, if_pos rfl, hw]; rfl
    · rw [if_neg hk, if_neg hk]
  have hres : delRes n (l.map I) [I i, I ((i : Int) + 1)] = (n - 1, (l.map I).take i ++ (l.map I).drop (i + 1)) := by
    simp only [delRes, I]
    rw [show ((i : Int) + 1).toNat = i + 1 by omega, show ((i : Int)).toNat = i by omega, show i + 1 - i = 1 by omega]
  rw [hres, show i + 1 - i = 1 by omega, hn]
  refine ⟨_, rfl, ⟨?_, .inr ⟨g, cap, Sort.putCells (Value.int .i64) 0 d cur, rfl, Nat.zero_le _, by rw [hheap, if_pos rfl], by omega, hcm, ?_, ?_⟩⟩, ?_, ⟨rfl, rfl, rfl, ?_, ?_⟩, fun k e => .inr e⟩
  · simp; omega
  · simp [Sort.putCells, hsz]
  · apply List.ext_getElem?
    intro j
    rw [List.getElem?_take]
    have hl2 : (l.take i ++ l.drop (i + 1)).length = l.length - 1 := by simp; omega
    have e2 : (l.map I).take i ++ (l.map I).drop (i + 1) = (l.take i ++ l.drop (i + 1)).map I := by simp
    rw [e2]
    by_cases hj : j < l.length - 1
    · rw [if_pos (by omega), List.getElem?_map, Array.getElem?_toList, Sort.putCells, Array.getElem?_mapIdx, hcur j (by omega), List.getElem?_eq_getElem (l := l.take i ++ l.drop (i + 1)) (by omega)]
      simp only [Option.map_some, Nat.zero_le, true_and, Nat.zero_add, Nat.sub_zero]
      rw [if_pos (by omega), hdg j hj, List.getD_eq_getElem?_getD, List.getElem?_eq_getElem (by omega)]
      rfl
    · rw [if_neg (by omega), List.getElem?_eq_none (by simp; omega)]
  · intro u hu
    rcases List.mem_append.1 hu with h | h
    · exact hone u (List.mem_of_mem_take h)
    · exact hone u (List.mem_of_mem_drop h)
  · show _ ≤ (W.heap.modify g _).size
    simp
  · intro k _ hk
    rw [hheap, if_neg (fun e => hk (by rw [e]; rfl))]
theorem uslP_len (g : Rg) : ∀ i, (uslP g i).length ≤ i
  | 0 => Nat.le_refl _
  | i + 1 => by
    have ih := uslP_len g i
    simp only [uslP]
    split
    · simp; omega
    · omega
theorem body63 : HasBody Try.prog 63 := hasBody_of (by kernel_rfl)
theorem useless36 : Sound Try.prog 36 id (grel (args2 rpRd rxRd fun _ _ => True) fun p v G => ∃ w, v = .tuple #[w, I (faultX p.1 p.2)] ∧ SlV intE G w (if faultX p.1 p.2 = 0 then uslF p.1 p.2 else [])) := by
  refine comp36.grel (Tab.cons 44 _ read44 body44 (Tab.cons 61 _ holding61 body61 (Tab.cons 62 _ by62 body62 (Tab.cons 63 _ delete63 body63 (Tab.cons 64 _ clone64 body64 (Tab.nil _)))))) (ok2 _ _ _) (fun args G s h => ?_) (fun x v G G' hg h => ?_) (fun args G p h => ?_)
  · obtain ⟨v, w, rfl, _⟩ := h; simp
  · obtain ⟨w, h1, h2⟩ := h
    exact ⟨w, h1, h2.grow hg⟩
  · obtain ⟨r, x⟩ := p
    obtain ⟨u, v, rfl, hr, hx, _⟩ := h
    dsimp only at hr hx
    obtain ⟨rw_, ro, rfl, hrc⟩ := id hr
    obtain ⟨m, rfl, hm⟩ := id hx
    obtain ⟨oa, on, oc, rfl, ho1, ho2⟩ := id hrc.o
    obtain ⟨wa, wn, wc, rfl, hw1, hw2⟩ := id hrc.w
    obtain ⟨ma, mn, mc, rfl, hm1, hm2⟩ := id hm
    (conv => whnf)
    refine RelP.g (ok2 rpRd rxRd fun _ _ => True) (x := (r, x)) ⟨_, _, rfl, hr, hx, trivial⟩ (Grow.refl _) (fun v G1 hg1 hq => W.mk ?_)
    obtain ⟨gwa, gwn, gwc, goa, gon, goc, gma, gmn, gmc, gc, gy, gp, rfl, hq⟩ := hq
    dsimp only at hq
    dsimp only
    (conv => whnf)
    refine IteP.mk (fun h1 => W.mk ?_) (fun h1 => W.mk ?_) <;> (conv => whnf)
    rotate_left
    · have h1 : ¬ faultX r x = 0 := h1
      exact FinP.mk ⟨_, rfl, by rw [if_neg h1]; exact SlV.nil⟩
    have h1 : faultX r x = 0 := h1
    obtain ⟨rfl, rfl, rfl, hgc⟩ := hq h1
    have hfine := rgFine h1
    have hfn := (faultX_fine h1).1
    have hol : (rgOf r x).r.orders.length ≤ 12 := hfn.ol
    have hll := holK_len (rgOf r x) (rgOf r x).r.orders.length
    have hmem := holK_mem (rgOf r x) (rgOf r x).r.orders.length
    have hord : ∀ o ∈ (rgOf r x).r.orders, 0 ≤ o.f ∧ o.f ≤ o.t ∧ o.t ≤ 60 := fun o ho => by
      have := hfn.o o ho
      have := hfn.wl
      omega
    refine RelP.g (ok1 rgRd fun g => g.r.orders.length ≤ 1000) (x := rgOf r x) ⟨_, rfl, ⟨_, _, _, rfl, hgc⟩, by omega⟩ (Grow.refl _) (fun v G2 hg2 hq2 => W.mk ?_)
    obtain ⟨la, ln, lc, rfl, hl1, hl2⟩ := id hq2
    have hlen := hl1.len
    (conv => whnf)
    refine LoopP.of { α := Nat × Nat × List Value, fr := fun y => [(6, .c (.ptr 10 0)), (8, .c (.row 1 y.2.1)), (9, .v (.slice la ln lc)), (23, .v (.slice la ln lc)), (24, .v (I ln)), (25, .v (I y.1))], H := fun y => [(10, .cells .anon ((rgl (.slice gwa gwn gwc) (.slice goa gon goc) (.slice gma gmn gmc) r.cols x.year (rgOf r x).p).map .val) 97), (1, .row none y.2.1 y.2.2 3 1)], ok := fun y G => y.1 ≤ (holF (rgOf r x)).length ∧ Row intE (uslP (rgOf r x) y.1) y.2.1 y.2.2, m := fun y => (holF (rgOf r x)).length - y.1 }
      (0, 0, []) (HeadP.of [(1, none)] ⟨rfl, rfl, rfl, rfl, rfl, rfl, trivial⟩ ⟨rfl, rfl, trivial⟩) ⟨Nat.zero_le _, Row.nil⟩ (fun y => ⟨rfl, rfl⟩) (fun y G3 hg3 hx => W.mk ?_)
    obtain ⟨i, n, vs⟩ := y
    obtain ⟨hi, hrow⟩ := hx
    dsimp only at hi hrow
    have hrn := hrow.n
    have hul := uslP_len (rgOf r x) i
    have hhl : (holF (rgOf r x)).length ≤ 12 := Nat.le_trans hll hol
    dsimp only
    (conv => whnf)
    refine IteP.mk (fun hlt => W.mk ?_) (fun hge => W.mk ?_) <;> (conv => whnf)
    · have hlt : i < (holF (rgOf r x)).length := by omega
      have hl3 := SlR.grow (G := G2) (G' := G3) (fun _ _ h => h) hl1 hg3
      have hce := hl3.el hlt
      have hst : uslP (rgOf r x) (i + 1) = if sameV (rgOf r x) ((holF (rgOf r x)).eraseIdx i) then uslP (rgOf r x) i ++ [(holF (rgOf r x)).getD i 0] else uslP (rgOf r x) i := rfl
      have hgd : (holF (rgOf r x)).getD i 0 = (holF (rgOf r x))[i] := by simp [hlt]
      rw [hgd] at hst
      have hmm := hmem _ (List.getElem_mem hlt)
      generalize (holF (rgOf r x))[i] = kk at hce hst hmm
      repeat' (first | (refine OblP.mk ?_ (W.mk ?_); (first | trivial | omega | (simp only [inR]; omega) | exact Nat.le_of_ble_eq_true (by rfl) | exact SlR.some (by assumption) (by omega)); (conv => whnf)) | (first | (refine RdP.at (by assumption) (by rfl) (W.mk ?_); (conv => whnf)) | (refine RdP.sub (by assumption) (by rfl) (W.mk ?_); (conv => whnf)) | (refine RdP.sub2 (by assumption) (by rfl) (W.mk ?_); (conv => whnf)) | (refine RdP.sub3 (by assumption) (by rfl) (W.mk ?_); (conv => whnf))))
      refine OwnP.g (ok1 (slRd intE) fun l => l.length ≤ 8796093022207) (x := holF (rgOf r x)) ⟨_, rfl, hq2.grow hg3, by omega⟩ (Grow.refl _) (fun m ws G4 hg4 hrw => W.mk ?_)
      obtain ⟨rfl, rfl⟩ := hrw
      have hfl : ∀ l : List Int, (l.map intE.f).flatten = l.map I := fun l => by
        induction l with
        | nil => rfl
        | cons a l ih => rw [List.map_cons, List.flatten_cons, ih]; rfl
      rw [hfl]
      dsimp only
      (conv => whnf)
      (refine OblP.mk ?_ (W.mk ?_); (first | trivial | omega | (simp only [inR]; omega) | exact Nat.le_of_ble_eq_true (by rfl) | exact SlR.some (by assumption) (by omega)); (conv => whnf))
      refine OblP.mk ⟨rfl, holF (rgOf r x), i, rfl, rfl, hlt⟩ (W.mk ?_)
      (conv => whnf)
      have hres : delRes (holF (rgOf r x)).length ((holF (rgOf r x)).map I) [I i, I ((i : Int) + 1)] = ((holF (rgOf r x)).length - 1, ((holF (rgOf r x)).eraseIdx i).map I) := by
        simp only [delRes, I]
        rw [show ((i : Int) + 1).toNat = i + 1 by omega, show ((i : Int)).toNat = i by omega, show i + 1 - i = 1 by omega, List.eraseIdx_eq_take_drop_succ]
        simp
      refine GiveP.mk (fun ca cc G5 hg5 hp5 => W.mk ?_)
      rw [hres] at hp5 ⊢
      dsimp only at hp5 ⊢
      (conv => whnf)
      have hsl : SlV intE G5 (.slice ca ((holF (rgOf r x)).length - 1) cc) ((holF (rgOf r x)).eraseIdx i) := hp5.slV (hfl _).symm (by rw [List.length_eraseIdx, if_pos hlt]) (by omega)
      refine ScaP.g (ok2 rgRd (slRd intE) ByOk) (x := (rgOf r x, (holF (rgOf r x)).eraseIdx i)) ⟨_, _, rfl, ⟨_, _, _, rfl, (((hgc.grow hg2).grow hg3).grow hg4).grow hg5⟩, hsl, fun k hk => hmem k (List.mem_of_mem_eraseIdx hk), hord⟩ (fun v hv => W.mk ?_)
      subst hv
      dsimp only
      (conv => whnf)
      refine PurP.of _ (eq95 (byF (rgOf r x) ((holF (rgOf r x)).eraseIdx i)) (rgOf r x).p) (W.mk ?_)
      (conv => whnf)
      have hsv : ((List.range 60).all fun j => byF (rgOf r x) ((holF (rgOf r x)).eraseIdx i) j == (rgOf r x).p j) = sameV (rgOf r x) ((holF (rgOf r x)).eraseIdx i) := rfl
      rw [hsv]
      refine ForkP.mk (fun hm => W.mk ?_) (fun hm => W.mk ?_) <;> (conv => whnf)
      · rw [if_pos hm] at hst
        repeat' (first | (refine OblP.mk rfl (W.mk ?_); (conv => whnf)) | (refine OblP.mk ?_ (W.mk ?_); (first | trivial | omega | (simp only [inR]; omega) | exact Nat.le_of_ble_eq_true (by rfl) | exact SlR.some (by assumption) (by omega)); (conv => whnf)) | (first | (refine RdP.at (by assumption) (by rfl) (W.mk ?_); (conv => whnf)) | (refine RdP.sub (by assumption) (by rfl) (W.mk ?_); (conv => whnf)) | (refine RdP.sub2 (by assumption) (by rfl) (W.mk ?_); (conv => whnf)) | (refine RdP.sub3 (by assumption) (by rfl) (W.mk ?_); (conv => whnf))))
        refine RoundP.of (i + 1, n + 1, vs ++ [I kk]) (HeadP.of [(1, some 45)] ⟨rfl, rfl, rfl, rfl, rfl, rfl, trivial⟩ ⟨rfl, rfl, trivial⟩) ⟨hlt, ?_⟩ (by simp only; omega)
        rw [hst]
        exact hrow.snoc kk
      · rw [if_neg (by rw [hm]; simp)] at hst
        repeat' (first | (refine OblP.mk rfl (W.mk ?_); (conv => whnf)) | (refine OblP.mk ?_ (W.mk ?_); (first | trivial | omega | (simp only [inR]; omega) | exact Nat.le_of_ble_eq_true (by rfl) | exact SlR.some (by assumption) (by omega)); (conv => whnf)) | (first | (refine RdP.at (by assumption) (by rfl) (W.mk ?_); (conv => whnf)) | (refine RdP.sub (by assumption) (by rfl) (W.mk ?_); (conv => whnf)) | (refine RdP.sub2 (by assumption) (by rfl) (W.mk ?_); (conv => whnf)) | (refine RdP.sub3 (by assumption) (by rfl) (W.mk ?_); (conv => whnf))))
        refine RoundP.of (i + 1, n, vs) (HeadP.of [] ⟨rfl, rfl, rfl, rfl, rfl, rfl, trivial⟩ ⟨rfl, rfl, trivial⟩) ⟨hlt, ?_⟩ (by simp only; omega)
        rw [hst]
        exact hrow
    · have hie : i = (holF (rgOf r x)).length := by omega
      subst hie
      refine PubP.mk (fun a1 c1 G4 hg4 hp => W.mk ?_)
      (conv => whnf)
      refine FinP.mk ⟨_, by rw [h1]; rfl, ?_⟩
      rw [if_pos h1, ← usl_F hfn x]
      exact hrow.pub hp (by omega)
end Go.Proofs.Ytpcpjmplgladmaa
