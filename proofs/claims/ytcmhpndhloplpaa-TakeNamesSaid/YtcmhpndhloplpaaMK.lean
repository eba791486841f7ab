/- The examples: walked. -/
import Derived.Test.YtcmhpndhloplpaaMJ
namespace Go.Proofs.Ytcmhpndhloplpaa
open Go.Pal

set_option maxRecDepth 100000
set_option maxHeartbeats 40000000

theorem check31 : Sound Try.prog 31 id (gsca (args1 offRd fun _ => True) fun o v => v = I (if validO o = true then 0 else 1)) := by
  refine comp31.gsca (Tab.cons 49 _ valid49 body49 (Tab.nil _)) (fun args G s h => ?_) (fun args G o h => ?_)
  · obtain ⟨v, rfl, _⟩ := h; simp
  · obtain ⟨v, rfl, ⟨w, rfl, a, n, c, rfl, hl, hn⟩, _⟩ := h
    (conv => whnf)
    refine ScaP.g (ok1 offRd fun _ => True) (x := o) ⟨_, rfl, ⟨_, rfl, a, n, c, rfl, hl, hn⟩, trivial⟩ (fun v hv => W.mk ?_)
    subst hv
    (conv => whnf)
    refine ForkP.mk (fun h => W.mk ?_) (fun h => W.mk ?_) <;> (conv => whnf) <;> refine FinP.mk ?_
    · show I 0 = I _; rw [if_pos h]
    · show I 1 = I _; rw [if_neg (by rw [h]; decide)]
def tabX : Tab Try.prog := Tab.cons 15 _ at15 body15 (Tab.cons 28 _ chamber28 body28 (Tab.cons 29 _ ints29 body29 (Tab.cons 30 _ check30 body30 (Tab.cons 31 _ check31 body31 tabW))))
abbrev realX : List Slow := [⟨1, 10⟩, ⟨1, 10⟩, ⟨1, 10⟩, ⟨1, 10⟩, ⟨1, 10⟩]
abbrev rotaX : List Int := [1, 0, 2, 1, 0]
def twoX : Off := ⟨chamberO.crew.take 2, chamberO.due, chamberO.delay⟩
def longX : Sit := ⟨chamberS.len, chamberS.ps, 20, 20⟩
def noneX : Sit := ⟨chamberS.len, [⟨0, 1000⟩], chamberS.long, chamberS.short⟩
theorem x1 : atV chamberS 399 = 1 ∧ atE chamberS 399 = 0 ∧ atV chamberS 400 = 0 ∧ atE chamberS 400 = 7 ∧ atV chamberS 500 = 2 ∧ atE chamberS 500 = 0 ∧ atV chamberS 1000 = 0 ∧ atE chamberS 1000 = 2 := by decide +kernel
theorem x2 : doneE chamberS chamberO rotaX realX = 0 ∧ donesF (takesF chamberS) realX realX.length = [370, 630, 870, 1050, 1150] := by decide +kernel
theorem x3 : relE chamberS chamberO rotaX 2 600 = 0 ∧ relA (wkF chamberS chamberO) rotaX 2 600 = rotaX ∧ openF (wkF chamberS chamberO) rotaX 2 600 (beforeF 600 (takesF chamberS)) = [2] := by decide +kernel
theorem x4 : relE chamberS chamberO rotaX 1 600 = 7 := by decide +kernel
theorem x5 : failsE chamberS chamberO = 7 ∧ failsV chamberS chamberO = 0 ∧ failsE chamberS twoX = 0 ∧ failsV chamberS twoX = 2 ∧ rotaE chamberS twoX = 9 := by decide +kernel
theorem x6 : doneE chamberS chamberO [1, 0, 2, 1] realX = 2 ∧ doneE chamberS chamberO rotaX (realX.take 4) = 1 := by decide +kernel
theorem x7 : relE chamberS chamberO [0, 0, 2, 1, 0] 1 600 = 9 ∧ relE chamberS chamberO rotaX 3 600 = 2 := by decide +kernel
theorem x8 : faultF longX = 3 ∧ faultF noneX = 0 ∧ takesF noneX = [] ∧ rotaE noneX twoX = 0 ∧ rotaF noneX twoX = [] ∧ validO ⟨[], 0, 0⟩ = false ∧ faultF ⟨0, [], 0, 0⟩ = 1 := by decide +kernel
theorem calm_long : Calm longX := chamber_calm
theorem calm_none : Calm noneX := fun p hp => by
  simp only [noneX, List.mem_singleton] at hp
  subst hp
  simp only [inR]; omega
theorem calm_nil : Calm ⟨0, [], 0, 0⟩ := fun p hp => by cases hp
theorem law9 : Sound Try.prog 9 id (gsca (fun args _ (_ : Unit) => args = []) fun _ v => v = .bool true) := by
  refine comp9.gsca tabX (fun args G s h => ?_) (fun args G x h => ?_)
  · rw [h]; simp
  · rw [h]
    obtain ⟨p1, p2, p3, p4, p5, p6, p7, p8⟩ := x1
    (conv => whnf)
    refine RelP.g okU (x := ()) rfl (Grow.refl _) (fun v G1 hg1 hq => W.mk ?_)
    obtain ⟨u, w, rfl, hS, hO⟩ := hq
    have hS0 := hS
    have hO0 := hO
    obtain ⟨w1, rfl, a, n, c, rfl, hl, hn⟩ := hS0
    obtain ⟨w2, rfl, a2, n2, c2, rfl, hl2, hn2⟩ := hO0
    have hg1 := Grow.refl G1
    (conv => whnf)
    refine ScaP.g (ok2 sitRd intRd fun s _ => Calm s) (x := (chamberS, 399)) ⟨_, _, rfl, hS, rfl, chamber_calm⟩ (fun v hv => W.mk ?_)
    replace hv := hv.trans (show Value.tuple #[I (atV chamberS 399), I (atE chamberS 399)] = .tuple #[I 1, I 0] by rw [p1, p2])
    subst hv
    (conv => whnf)
    refine ScaP.g (ok2 sitRd intRd fun s _ => Calm s) (x := (chamberS, 400)) ⟨_, _, rfl, hS, rfl, chamber_calm⟩ (fun v hv => W.mk ?_)
    replace hv := hv.trans (show Value.tuple #[I (atV chamberS 400), I (atE chamberS 400)] = .tuple #[I 0, I 7] by rw [p3, p4])
    subst hv
    (conv => whnf)
    refine ScaP.g (ok2 sitRd intRd fun s _ => Calm s) (x := (chamberS, 500)) ⟨_, _, rfl, hS, rfl, chamber_calm⟩ (fun v hv => W.mk ?_)
    replace hv := hv.trans (show Value.tuple #[I (atV chamberS 500), I (atE chamberS 500)] = .tuple #[I 2, I 0] by rw [p5, p6])
    subst hv
    (conv => whnf)
    obtain ⟨d1, d2⟩ := x2
    obtain ⟨l1, l2, l3⟩ := x3
    obtain ⟨f1, f2, f3, f4, f5⟩ := x5
    obtain ⟨e1, e2⟩ := x6
    obtain ⟨g1, g2⟩ := x7
    obtain ⟨y1, y2, y3, y4, y5, y6, y7⟩ := x8
    have hcap2 := hl2.cap
    have hlen2 : n2 = 3 := hl2.len.symm
    refine PubP.mk (fun pa2 pc2 G2 h2 hp2 => W.mk ?_)
    have hg2 := hg1.trans h2
    have r2 : SlV intE G2 (.slice pa2 _ pc2) (rotaX) := PubRow.slV hp2 rfl rfl (by decide)
    (conv => whnf)
    refine PubP.mk (fun qa qc G3 h3 hp3 => W.mk ?_)
    have hg3 := hg2.trans h3
    have q3 : SlV slowE G3 (.slice qa 5 qc) realX := PubRow.slV hp3 rfl rfl (by decide)
    (conv => whnf)
    refine RelP.g (ok4 sitRd offRd (slRd intE) (slRd slowE) fun s _ _ _ => Calm s) (x := (chamberS, chamberO, rotaX, realX)) ⟨_, _, _, _, rfl, sitRd.grow hg3 hS, offRd.grow hg3 hO, r2.grow h3, q3, chamber_calm⟩ (Grow.refl _) (fun v G4 h4 hq => W.mk ?_)
    have hg4 := hg3.trans h4
    obtain ⟨w4, rfl, hq⟩ := hq
    dsimp only at hq
    dsimp only
    rw [if_pos d1, d2] at hq
    rw [d1]
    have t4 := hq
    obtain ⟨a4, n4, c4, rfl, _⟩ := hq
    (conv => whnf)
    refine PubP.mk (fun pa5 pc5 G5 h5 hp5 => W.mk ?_)
    have hg5 := hg4.trans h5
    have r5 : SlV intE G5 (.slice pa5 _ pc5) (rotaX) := PubRow.slV hp5 rfl rfl (by decide)
    (conv => whnf)
    refine RelP.g (ok5 sitRd offRd (slRd intE) intRd intRd fun s _ _ _ _ => Calm s) (x := (chamberS, chamberO, rotaX, 2, 600)) ⟨_, _, _, _, _, rfl, sitRd.grow hg5 hS, offRd.grow hg5 hO, r5, rfl, rfl, chamber_calm⟩ (Grow.refl _) (fun v G6 h6 hq => W.mk ?_)
    have hg6 := hg5.trans h6
    obtain ⟨w6, u6, rfl, hq⟩ := hq
    dsimp only at hq
    dsimp only
    rw [if_pos l1, l2, l3] at hq
    rw [l1]
    obtain ⟨hA, hB⟩ := hq
    have t6 := hA
    have s6 := hB
    obtain ⟨a6, n6, c6, rfl, _⟩ := hA
    obtain ⟨b6, m6, k6, rfl, _⟩ := hB
    (conv => whnf)
    refine PubP.mk (fun pa7 pc7 G7 h7 hp7 => W.mk ?_)
    have hg7 := hg6.trans h7
    have r7 : SlV intE G7 (.slice pa7 _ pc7) (rotaX) := PubRow.slV hp7 rfl rfl (by decide)
    (conv => whnf)
    refine RelP.g (ok5 sitRd offRd (slRd intE) intRd intRd fun s _ _ _ _ => Calm s) (x := (chamberS, chamberO, rotaX, 1, 600)) ⟨_, _, _, _, _, rfl, sitRd.grow hg7 hS, offRd.grow hg7 hO, r7, rfl, rfl, chamber_calm⟩ (Grow.refl _) (fun v G8 h8 hq => W.mk ?_)
    have hg8 := hg7.trans h8
    obtain ⟨w8, u8, rfl, hq⟩ := hq
    dsimp only at hq
    dsimp only
    rw [if_neg (by rw [x4]; decide)] at hq
    obtain ⟨rfl, rfl⟩ := hq
    rw [x4]
    (conv => whnf)
    refine IteP.mk (fun _ => W.mk ?_) (fun h => absurd rfl h)
    (conv => whnf)
    refine IteP.mk (fun _ => W.mk ?_) (fun h => absurd rfl h)
    (conv => whnf)
    refine IteP.mk (fun _ => W.mk ?_) (fun h => absurd rfl h)
    (conv => whnf)
    refine IteP.mk (fun _ => W.mk ?_) (fun h => absurd rfl h)
    (conv => whnf)
    refine IteP.mk (fun _ => W.mk ?_) (fun h => absurd rfl h)
    (conv => whnf)
    refine IteP.mk (fun _ => W.mk ?_) (fun h => absurd rfl h)
    (conv => whnf)
    refine PubP.mk (fun pa9 pc9 G9 h9 hp9 => W.mk ?_)
    have hg9 := hg8.trans h9
    have r9 : SlV intE G9 (.slice pa9 _ pc9) (([370, 630, 870, 1050, 1150] : List Int)) := PubRow.slV hp9 rfl rfl (by decide)
    (conv => whnf)
    refine ScaP.g (ok2 (slRd intE) (slRd intE) fun _ _ => True) (x := (([370, 630, 870, 1050, 1150] : List Int), ([370, 630, 870, 1050, 1150] : List Int))) ⟨_, _, rfl, t4.grow (((((h5.trans h6).trans h7).trans h8).trans h9)), r9, trivial⟩ (fun v hv => W.mk ?_)
    replace hv : v = .bool true := hv.trans (congrArg Value.bool (decide_eq_true rfl))
    subst hv
    (conv => whnf)
    refine ForkP.mk (fun _ => W.mk ?_) (fun h => by cases h)
    (conv => whnf)
    refine IteP.mk (fun _ => W.mk ?_) (fun h => absurd rfl h)
    (conv => whnf)
    refine PubP.mk (fun pa10 pc10 G10 h10 hp10 => W.mk ?_)
    have hg10 := hg9.trans h10
    have r10 : SlV intE G10 (.slice pa10 _ pc10) (rotaX) := PubRow.slV hp10 rfl rfl (by decide)
    (conv => whnf)
    refine ScaP.g (ok2 (slRd intE) (slRd intE) fun _ _ => True) (x := (rotaX, rotaX)) ⟨_, _, rfl, t6.grow (((h7.trans h8).trans h9).trans h10), r10, trivial⟩ (fun v hv => W.mk ?_)
    replace hv : v = .bool true := hv.trans (congrArg Value.bool (decide_eq_true rfl))
    subst hv
    (conv => whnf)
    refine ForkP.mk (fun _ => W.mk ?_) (fun h => by cases h)
    (conv => whnf)
    refine PubP.mk (fun pa11 pc11 G11 h11 hp11 => W.mk ?_)
    have hg11 := hg10.trans h11
    have r11 : SlV intE G11 (.slice pa11 _ pc11) (([2] : List Int)) := PubRow.slV hp11 rfl rfl (by decide)
    (conv => whnf)
    refine ScaP.g (ok2 (slRd intE) (slRd intE) fun _ _ => True) (x := (([2] : List Int), ([2] : List Int))) ⟨_, _, rfl, s6.grow ((((h7.trans h8).trans h9).trans h10).trans h11), r11, trivial⟩ (fun v hv => W.mk ?_)
    replace hv : v = .bool true := hv.trans (congrArg Value.bool (decide_eq_true rfl))
    subst hv
    (conv => whnf)
    refine ForkP.mk (fun _ => W.mk ?_) (fun h => by cases h)
    (conv => whnf)
    refine IteP.mk (fun _ => W.mk ?_) (fun h => absurd rfl h)
    (conv => whnf)
    refine ScaP.g (ok2 sitRd offRd fun s _ => Calm s) (x := (chamberS, chamberO)) ⟨_, _, rfl, sitRd.grow hg11 hS, offRd.grow hg11 hO, chamber_calm⟩ (fun v hv => W.mk ?_)
    replace hv := hv.trans (show Value.tuple #[I (failsV chamberS chamberO), I (failsE chamberS chamberO)] = .tuple #[I 0, I 7] by rw [f1, f2])
    subst hv
    (conv => whnf)
    have hT : OffV G1 (.agg #[.slice (cutA a2 (0 : Int).toNat (c2 : Int).toNat 3) ((2 : Int).toNat - (0 : Int).toNat) ((c2 : Int).toNat - (0 : Int).toNat), I chamberO.due, I chamberO.delay]) twoX := ⟨_, rfl, cutTake (i := 2) hl2 (by omega) hn2⟩
    repeat' (refine OblP.mk ?_ (W.mk ?_); (first | trivial | omega | (simp only [inR]; omega) | exact Nat.le_of_ble_eq_true (by rfl) | exact SlR.some (by assumption) (by omega)); (conv => whnf))
    refine ScaP.g (ok2 sitRd offRd fun s _ => Calm s) (x := (chamberS, twoX)) ⟨_, _, rfl, sitRd.grow hg11 hS, offRd.grow hg11 hT, chamber_calm⟩ (fun v hv => W.mk ?_)
    replace hv := hv.trans (show Value.tuple #[I (failsV chamberS twoX), I (failsE chamberS twoX)] = .tuple #[I 2, I 0] by rw [f3, f4])
    subst hv
    (conv => whnf)
    refine RelP.g (ok2 sitRd offRd fun s _ => Calm s) (x := (chamberS, twoX)) ⟨_, _, rfl, sitRd.grow hg11 hS, offRd.grow hg11 hT, chamber_calm⟩ (Grow.refl _) (fun v G12 h12 hq => W.mk ?_)
    have hg12 := hg11.trans h12
    obtain ⟨w12, rfl, hq⟩ := hq
    dsimp only at hq
    dsimp only
    rw [if_neg (by rw [f5]; decide)] at hq
    subst hq
    rw [f5]
    (conv => whnf)
    refine ScaP.g (ok2 sitRd intRd fun s _ => Calm s) (x := (chamberS, 1000)) ⟨_, _, rfl, sitRd.grow hg12 hS, rfl, chamber_calm⟩ (fun v hv => W.mk ?_)
    replace hv := hv.trans (show Value.tuple #[I (atV chamberS 1000), I (atE chamberS 1000)] = .tuple #[I 0, I 2] by rw [p7, p8])
    subst hv
    (conv => whnf)
    have h312 : Grow G3 G12 := (((((((h4.trans h5).trans h6).trans h7).trans h8).trans h9).trans h10).trans h11).trans h12
    refine PubP.mk (fun pa13 pc13 G13 h13 hp13 => W.mk ?_)
    have hg13 := hg12.trans h13
    have r13 : SlV intE G13 (.slice pa13 _ pc13) (([1, 0, 2, 1] : List Int)) := PubRow.slV hp13 rfl rfl (by decide)
    (conv => whnf)
    refine RelP.g (ok4 sitRd offRd (slRd intE) (slRd slowE) fun s _ _ _ => Calm s) (x := (chamberS, chamberO, [1, 0, 2, 1], realX)) ⟨_, _, _, _, rfl, sitRd.grow hg13 hS, offRd.grow hg13 hO, r13, q3.grow (h312.trans h13), chamber_calm⟩ (Grow.refl _) (fun v G14 h14 hq => W.mk ?_)
    have hg14 := hg13.trans h14
    obtain ⟨w14, rfl, hq⟩ := hq
    dsimp only at hq
    dsimp only
    rw [if_neg (by rw [e1]; decide)] at hq
    subst hq
    rw [e1]
    (conv => whnf)
    refine RelP.mk trivial (fun v G15 h15 hq => W.mk ?_)
    have hg15 := hg14.trans h15
    obtain ⟨pa, pc, rfl, hp⟩ := hq
    have r15 : SlV intE G15 (.slice pa 5 pc) rotaX := PubRow.slV hp rfl rfl (by decide)
    have h315 := ((h312.trans h13).trans h14).trans h15
    obtain ⟨qa', qn', qc', e, ql, hqn⟩ := q3.grow h315
    cases e
    have hqcap := ql.cap
    have q15 := cutTake (i := 4) (k := 2) ql (by omega) hqn
    (conv => whnf)
    repeat' (refine OblP.mk ?_ (W.mk ?_); (first | trivial | omega | (simp only [inR]; omega) | exact Nat.le_of_ble_eq_true (by rfl) | exact SlR.some (by assumption) (by omega)); (conv => whnf))
    refine RelP.g (ok4 sitRd offRd (slRd intE) (slRd slowE) fun s _ _ _ => Calm s) (x := (chamberS, chamberO, rotaX, realX.take 4)) ⟨_, _, _, _, rfl, sitRd.grow hg15 hS, offRd.grow hg15 hO, r15, q15, chamber_calm⟩ (Grow.refl _) (fun v G16 h16 hq => W.mk ?_)
    have hg16 := hg15.trans h16
    obtain ⟨w16, rfl, hq⟩ := hq
    dsimp only at hq
    dsimp only
    rw [if_neg (by rw [e2]; decide)] at hq
    subst hq
    rw [e2]
    (conv => whnf)
    refine PubP.mk (fun pa17 pc17 G17 h17 hp17 => W.mk ?_)
    have hg17 := hg16.trans h17
    have r17 : SlV intE G17 (.slice pa17 _ pc17) (([0, 0, 2, 1, 0] : List Int)) := PubRow.slV hp17 rfl rfl (by decide)
    (conv => whnf)
    refine RelP.g (ok5 sitRd offRd (slRd intE) intRd intRd fun s _ _ _ _ => Calm s) (x := (chamberS, chamberO, ([0, 0, 2, 1, 0] : List Int), 1, 600)) ⟨_, _, _, _, _, rfl, sitRd.grow hg17 hS, offRd.grow hg17 hO, r17, rfl, rfl, chamber_calm⟩ (Grow.refl _) (fun v G18 h18 hq => W.mk ?_)
    have hg18 := hg17.trans h18
    obtain ⟨w18, u18, rfl, hq⟩ := hq
    dsimp only at hq
    dsimp only
    rw [if_neg (by rw [g1]; decide)] at hq
    obtain ⟨rfl, rfl⟩ := hq
    rw [g1]
    (conv => whnf)
    refine PubP.mk (fun pa19 pc19 G19 h19 hp19 => W.mk ?_)
    have hg19 := hg18.trans h19
    have r19 : SlV intE G19 (.slice pa19 _ pc19) (rotaX) := PubRow.slV hp19 rfl rfl (by decide)
    (conv => whnf)
    refine RelP.g (ok5 sitRd offRd (slRd intE) intRd intRd fun s _ _ _ _ => Calm s) (x := (chamberS, chamberO, rotaX, 3, 600)) ⟨_, _, _, _, _, rfl, sitRd.grow hg19 hS, offRd.grow hg19 hO, r19, rfl, rfl, chamber_calm⟩ (Grow.refl _) (fun v G20 h20 hq => W.mk ?_)
    have hg20 := hg19.trans h20
    obtain ⟨w20, u20, rfl, hq⟩ := hq
    dsimp only at hq
    dsimp only
    rw [if_neg (by rw [g2]; decide)] at hq
    obtain ⟨rfl, rfl⟩ := hq
    rw [g2]
    (conv => whnf)
    refine PubP.mk (fun na nc G21 h21 hp21 => W.mk ?_)
    have hg21 := hg20.trans h21
    have hN : SitV G21 (.agg #[I chamberS.len, .slice na 1 nc, I chamberS.long, I chamberS.short]) noneX := ⟨_, rfl, PubRow.slV hp21 rfl rfl (by decide)⟩
    (conv => whnf)
    refine RelP.g (ok1 sitRd fun s => Calm s) (x := noneX) ⟨_, rfl, hN, calm_none⟩ (Grow.refl _) (fun v G22 h22 hq => W.mk ?_)
    have hg22 := hg21.trans h22
    obtain ⟨w22, rfl, hq⟩ := hq
    rw [if_pos y2, y3] at hq
    rw [y2]
    obtain ⟨a22, n22, c22, rfl, l22, _⟩ := hq
    have e22 : n22 = 0 := l22.len.symm
    subst e22
    (conv => whnf)
    refine RelP.g (ok2 sitRd offRd fun s _ => Calm s) (x := (noneX, twoX)) ⟨_, _, rfl, sitRd.grow h22 hN, offRd.grow hg22 hT, calm_none⟩ (Grow.refl _) (fun v G23 h23 hq => W.mk ?_)
    have hg23 := hg22.trans h23
    obtain ⟨w23, rfl, hq⟩ := hq
    dsimp only at hq
    dsimp only
    rw [if_pos y4, y5] at hq
    rw [y4]
    obtain ⟨a23, n23, c23, rfl, l23, _⟩ := hq
    have e23 : n23 = 0 := l23.len.symm
    subst e23
    (conv => whnf)
    refine IteP.mk (fun _ => W.mk ?_) (fun h => absurd rfl h)
    (conv => whnf)
    refine IteP.mk (fun _ => W.mk ?_) (fun h => absurd rfl h)
    (conv => whnf)
    refine IteP.mk (fun _ => W.mk ?_) (fun h => absurd rfl h)
    (conv => whnf)
    refine IteP.mk (fun _ => W.mk ?_) (fun h => absurd rfl h)
    (conv => whnf)
    refine IteP.mk (fun _ => W.mk ?_) (fun h => absurd rfl h)
    (conv => whnf)
    refine IteP.mk (fun _ => W.mk ?_) (fun h => absurd rfl h)
    (conv => whnf)
    refine IteP.mk (fun _ => W.mk ?_) (fun h => absurd rfl h)
    (conv => whnf)
    refine IteP.mk (fun _ => W.mk ?_) (fun h => absurd rfl h)
    (conv => whnf)
    refine IteP.mk (fun _ => W.mk ?_) (fun h => absurd rfl h)
    (conv => whnf)
    have hLg : SitV G1 (.agg #[I chamberS.len, .slice a n c, I 20, I 20]) longX := ⟨_, rfl, a, n, c, rfl, hl, hn⟩
    refine ScaP.g (ok1 sitRd fun s => Calm s) (x := longX) ⟨_, rfl, sitRd.grow hg23 hLg, calm_long⟩ (fun v hv => W.mk ?_)
    replace hv := hv.trans (congrArg I y1)
    subst hv
    (conv => whnf)
    refine IteP.mk (fun _ => W.mk ?_) (fun h => absurd rfl h)
    (conv => whnf)
    refine IteP.mk (fun _ => W.mk ?_) (fun h => absurd rfl h)
    (conv => whnf)
    refine IteP.mk (fun _ => W.mk ?_) (fun h => absurd rfl h)
    (conv => whnf)
    refine IteP.mk (fun _ => W.mk ?_) (fun h => absurd rfl h)
    (conv => whnf)
    refine IteP.mk (fun _ => W.mk ?_) (fun h => absurd rfl h)
    (conv => whnf)
    refine ScaP.g (ok1 offRd fun _ => True) (x := ⟨[], 0, 0⟩) ⟨_, rfl, ⟨_, rfl, SlV.nil⟩, trivial⟩ (fun v hv => W.mk ?_)
    replace hv := hv.trans (congrArg I (if_neg (by rw [y6]; decide)))
    subst hv
    (conv => whnf)
    refine IteP.mk (fun _ => W.mk ?_) (fun h => absurd rfl h)
    (conv => whnf)
    refine ScaP.g (ok1 sitRd fun s => Calm s) (x := ⟨0, [], 0, 0⟩) ⟨_, rfl, ⟨_, rfl, SlV.nil⟩, calm_nil⟩ (fun v hv => W.mk ?_)
    replace hv := hv.trans (congrArg I y7)
    subst hv
    (conv => whnf)
    refine IteP.mk (fun _ => W.mk ?_) (fun h => absurd rfl h)
    (conv => whnf)
    (refine ScaP.g okU (G := fun _ => none) (x := ()) rfl (fun v hv => W.mk ?_); subst hv; (conv => whnf); refine ForkP.mk (fun _ => W.mk ?_) (fun h => by cases h); (conv => whnf); exact FinP.mk rfl)
end Go.Proofs.Ytcmhpndhloplpaa
