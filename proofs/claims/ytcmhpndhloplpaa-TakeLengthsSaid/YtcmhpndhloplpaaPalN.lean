/- A region that draws its order: every order does what the order of the text does. -/
import Derived.Test.YtcmhpndhloplpaaPalM
namespace Go.Pal
open Go.RowKit

structure OpOk (P : Program) (n : Nat) (ops : Array Oper) (o : Oper) (io : IOper) : Prop where
  op : CompB P o.op io.op
  gd : compGuard ops o = some io.guard
  dst : o.dst = io.dst
  ok : dstOk n io.dst = true

theorem room_FW (r : Option Nat) (n : Nat) : (FW r).room n := fun _ h => by simp [FW, Fence.wide] at h

theorem CallsIn.ex {F : Fence} {n : Nat} {P : Program} {f : FuncId} {args : Array Value} {w : World} {R : Ending → World → Prop} (hr : ∀ n, F.room n) (h : CallsIn F n P f args w R) : ∃ e w', R e w' :=
  let ⟨e, w', _, r, _⟩ := h.2 [] (hr _)
  ⟨e, w', r⟩

theorem wpIn_ex {P : Program} {o : Oper} {a : Act} {W : World} {rd : Option Nat} {nn : Nat} {K : Act → World → Prop} (h : o.wpIn (FW rd) nn P a W K (fun _ _ _ => False)) : ∃ a' W', K a' W' := by
  have h := h.2
  generalize (o.semAt (FW rd).round a.eval).run P W = r at h
  cases r with
  | halt x w' => cases x <;> exact h.elim
  | ok x w' =>
    cases x with
    | value v => exact ⟨_, _, h⟩
    | skip => exact ⟨_, _, h⟩
    | defer d => exact ⟨_, _, h⟩
    | enter f args =>
      obtain ⟨e, w2, h⟩ := CallsIn.ex (room_FW rd) h.2
      cases e with
      | returned v => exact ⟨_, _, h⟩
      | panicked c => exact h.elim
      | outgrown => obtain ⟨_, _, h⟩ := h; exact h.elim
    | row row args =>
      have h := h.2
      obtain ⟨v, w2, h, _⟩ := h default [] (room_FW rd _)
      exact ⟨_, _, h⟩
    | round l f tmps assign body =>
      obtain ⟨e, w2, h, _⟩ := h.2.2 default [] (room_FW rd _)
      cases e with
      | returned v => exact ⟨_, _, h⟩
      | panicked c => exact h.elim
      | outgrown => obtain ⟨_, _, h⟩ := h; exact h.elim
    | _ => exact h.elim

section
variable {P : Program} {bd : Nat} {B : Hp} {w0 : Root} {G0 : Hp} {n : Nat} {ops : Array Oper}

/-- What an operation asks holds ahead of those that it does not touch: they come to an end. -/
theorem obl_of (T : Tab P) {y : IOper} (hyv : y.op.isCallv = false) {post : List IOper} {K : St → Prop} : ∀ {pre : List IOper} {σ : St} {M : Nat → Prop} {E : Nat → Value} {a : Act} {W : World},
    (∀ x ∈ pre, indep bd x y = true ∧ (∃ o, OpOk P n ops o x) ∧ ¬ M x.hid) → pre.Pairwise (fun x x' => x.hid ≠ x'.hid) → Sat w0 G0 n M E σ a W → Grow B σ.G → vcOps P T.get bd B (pre ++ y :: post) σ K → TOb P T.get bd B y σ
  | [], σ, _, _, _, _, _, _, _, _, hv => by
    simp only [List.nil_append, vcOps, TF_eq, pubO_no hyv] at hv
    exact ((TI_iff T hyv).1 hv).1
  | x :: pre, σ, M, E, a, W, hp, hpw, hs, hB, hv => by
    obtain ⟨hi, ⟨o, ho⟩, hM⟩ := hp x (by simp)
    have I := indep_spec hi
    simp only [List.cons_append, vcOps, TF_eq, pubO_no I.vx] at hv
    obtain ⟨obx, hx⟩ := (TI_iff T I.vx).1 hv
    have hd : TI P T.get bd B x σ fun σ' => ∃ sv hu p G', TEf P T.get bd B x σ sv hu p ∧ (p = none → G' = σ.G) ∧ σ' = σ.app x.dst sv hu G' ∧ vcOps P T.get bd B (pre ++ y :: post) σ' K := by
      refine (TI_iff T I.vx).2 ⟨obx, fun sv hu p he => ?_⟩
      have := hx sv hu p he
      cases p with
      | none => exact ⟨sv, hu, none, σ.G, he, fun _ => rfl, rfl, this⟩
      | some q => intro G' hg hq; exact ⟨sv, hu, some q, G', he, fun e => (by cases e), rfl, this G' hg hq⟩
    have key := TI_sound T (rd := none) (nn := 0) (Q := fun _ _ _ => False) hs hM ho.op ho.gd ho.dst ho.ok hB hd
    have : ∃ σ' E' a' W', (∃ sv hu p G', TEf P T.get bd B x σ sv hu p ∧ (p = none → G' = σ.G) ∧ σ' = σ.app x.dst sv hu G' ∧ vcOps P T.get bd B (pre ++ y :: post) σ' K) ∧ Grow σ.G σ'.G ∧ Sat w0 G0 n (fun k => M k ∨ k = x.hid) E' σ' a' W' := by
      split at key
      · obtain ⟨a', W', σ', E', h1, h2, _, _, h3⟩ := wpIn_ex key
        exact ⟨σ', E', a', W', h1, h2, h3⟩
      · obtain ⟨_, σ', E', h1, h2, _, _, h3⟩ := key
        exact ⟨σ', E', _, _, h1, h2, h3⟩
    obtain ⟨σ', E', a', W', ⟨sv, hu, p, G', he, hpn, rfl, hvc⟩, hgr, hs'⟩ := this
    have ih := obl_of T hyv (pre := pre) (fun x' hx' => ⟨(hp x' (by simp [hx'])).1, (hp x' (by simp [hx'])).2.1, fun hm => ?_⟩) (List.pairwise_cons.1 hpw).2 hs' (hB.trans hgr) hvc
    · refine (TEf_seen (P := P) (B := B) (seen_y I he (G' := G')) ?_ (sv := sv) (hu := hu) (p := p)).2.1 ih
      rcases I.gy with h | h
      · exact .inl h
      · exact .inr (hpn (TEf_still h he))
    · rcases hm with hm | hm
      · exact (hp x' (by simp [hx'])).2.2 hm
      · exact (List.pairwise_cons.1 hpw).1 x' hx' hm.symm

/-- An operation whose turn it is: done now, the rest is asked as it was. -/
theorem take (T : Tab P) {y : IOper} {pre post : List IOper} {K : St → Prop} {σ : St} {M : Nat → Prop} {E : Nat → Value} {a : Act} {W : World}
    (hp : ∀ x ∈ pre, indep bd x y = true ∧ (∃ o, OpOk P n ops o x) ∧ ¬ M x.hid) (hpw : pre.Pairwise (fun x x' => x.hid ≠ x'.hid)) (hs : Sat w0 G0 n M E σ a W) (hB : Grow B σ.G) (hv : vcOps P T.get bd B (pre ++ y :: post) σ K) :
    pubO y.op σ fun σ => TI P T.get bd B y σ fun σ' => vcOps P T.get bd B (pre ++ post) σ' K := by
  cases pre with
  | nil => simpa only [List.nil_append, vcOps, TF_eq] using hv
  | cons x pre =>
  have hyv := (indep_spec (hp x (by simp)).1).vy
  have ob := obl_of T hyv hp hpw hs hB hv
  rw [pubO_no hyv]
  exact (TI_iff T hyv).2 ⟨ob, fun sv hu p he => pull T (fun x hx => (hp x hx).1) hyv hv ob sv hu p he⟩

/-! ### The region -/

/-- Of two operations, the first ahead of the second in the text: the second waits for the first, or either may come first. -/
def pairOk (bd : Nat) (p q : Nat × IOper) : Bool := Nat.blt p.1 q.1 && !Nat.beq p.2.hid q.2.hid && (memN p.1 q.2.deps || indep bd p.2 q.2)
def pairsOk (bd : Nat) : List (Nat × IOper) → Bool
  | [] => true
  | p :: r => cond (r.all (pairOk bd p)) (pairsOk bd r) false

theorem pairsOk_spec : ∀ {l : List (Nat × IOper)}, pairsOk bd l = true → l.Pairwise (fun p q => pairOk bd p q = true)
  | [], _ => List.Pairwise.nil
  | p :: r, h => by
    simp only [pairsOk] at h
    cases hc : r.all (pairOk bd p) with
    | false => rw [hc] at h; cases h
    | true => rw [hc] at h; exact List.pairwise_cons.2 ⟨by simpa using hc, pairsOk_spec h⟩

/-- The list of the operations, with their places, and what they wait for. -/
structure Draw (P : Program) (n bd : Nat) (ops : Array Oper) (all : List (Nat × IOper)) : Prop where
  ok : ∀ i io, (i, io) ∈ all → ∃ o, ops[i]? = some o ∧ OpOk P n ops o io ∧ (∀ a, a ∈ depsOf o → a < i) ∧
    ∀ a ∈ io.deps, a ∈ depsOf o ∨ ∃ q ∈ all, q.1 ∈ depsOf o ∧ a ∈ q.2.deps
  full : ∀ i, i < ops.size → ∃ io, (i, io) ∈ all
  pw : all.Pairwise (fun p q => pairOk bd p q = true)

theorem mem_depsOf {o : Oper} {a : Nat} : a ∈ depsOf o ↔ ∃ e ∈ o.after, Region.binds .any e = true ∧ e.on = a := by
  simp only [depsOf, List.mem_map, List.mem_filter, Array.mem_toList_iff, and_assoc]

theorem pw_inj {all : List (Nat × IOper)} (h : all.Pairwise (fun p q => pairOk bd p q = true)) {p q : Nat × IOper} (hp : p ∈ all) (hq : q ∈ all) (e : p.1 = q.1) : p = q := by
  induction all with
  | nil => cases hp
  | cons x r ih =>
    obtain ⟨h1, h2⟩ := List.pairwise_cons.1 h
    have lt : ∀ y ∈ r, x.1 < y.1 := fun y hy => by
      have := h1 y hy
      simp only [pairOk, Bool.and_eq_true] at this
      simpa using this.1.1
    rcases List.mem_cons.1 hp with rfl | hp' <;> rcases List.mem_cons.1 hq with rfl | hq'
    · rfl
    · have := lt q hq'; omega
    · have := lt p hp'; omega
    · exact ih h2 hp' hq'

theorem any_sound (T : Tab P) {all : List (Nat × IOper)} (D : Draw P n bd ops all) {rd : Option Nat} {nn : Nat} {Q : Exit → Act → World → Prop} {K : St → Prop} {top : Nat} (hbt : bd ≤ top) (htop : ∀ p ∈ all, p.2.hid < top)
    {M0 : Nat → Prop} {E0 : Nat → Value} {p0 : SV} (hq : ∀ σ' a' W' M E, K σ' → Grow B σ'.G → (∀ k, M k → k < top) → (∀ k, M0 k → M k) → Agree M0 E0 E → σ'.fr POS = p0 → Sat w0 G0 n M E σ' a' W' → Q .normal a' W') :
    ∀ (fuel : Nat) {rest : List (Nat × IOper)} {listed : Array Bool} {σ : St} {M : Nat → Prop} {E : Nat → Value} {a : Act} {W : World}, rest.length = fuel → rest.Sublist all → (∀ i, i < ops.size → (listed.getD i true = false ↔ ∃ io, (i, io) ∈ rest)) → listed.size = ops.size →
      (∀ p ∈ all, p ∉ rest → ∀ d ∈ p.2.deps, ∀ q ∈ rest, q.1 ≠ d) → (∀ p ∈ rest, ¬ M p.2.hid) → (∀ k, M k → k < top) → (∀ k, M0 k → M k) → Agree M0 E0 E → σ.fr POS = p0 → Sat w0 G0 n M E σ a W → Grow B σ.G → vcOps P T.get bd B (rest.map (·.2)) σ K →
      wpAnyIn (FW rd) nn P .any ops Q fuel listed a W := by
  intro fuel
  induction fuel with
  | zero =>
    intro rest listed σ M E a W hlen hsub hlist hsz hclo hfresh hM hMM hAg hp0 hs hB hv
    have hr : rest = [] := List.eq_nil_of_length_eq_zero hlen
    subst hr
    refine ⟨?_, hq σ a W M E hv hB hM hMM hAg hp0 hs⟩
    cases hrd : Region.ready .any ops listed with
    | nil => rfl
    | cons i r =>
      have hi : i ∈ Region.ready .any ops listed := by rw [hrd]; simp
      obtain ⟨h1, o, ho, _⟩ := mem_ready.1 hi
      obtain ⟨io, hio⟩ := (hlist i (Array.getElem?_eq_some_iff.1 ho).1).1 h1
      cases hio
  | succ fuel ih =>
    intro rest listed σ M E a W hlen hsub hlist hsz hclo hfresh hM hMM hAg hp0 hs hB hv
    have hpw := D.pw.sublist hsub
    constructor
    · -- some operation is ready: the first
      intro hnone
      cases rest with
      | nil => simp at hlen
      | cons p r =>
        exfalso
        obtain ⟨i, io⟩ := p
        obtain ⟨o, ho, _, hlt, _⟩ := D.ok i io (hsub.subset (by simp))
        have : i ∈ Region.ready .any ops listed := by
          refine mem_ready.2 ⟨(hlist i (Array.getElem?_eq_some_iff.1 ho).1).2 ⟨io, by simp⟩, o, ho, fun e he hb => ?_⟩
          have hlt := hlt e.on (mem_depsOf.2 ⟨e, he, hb, rfl⟩)
          have hisz := (Array.getElem?_eq_some_iff.1 ho).1
          have hes : e.on < ops.size := Nat.lt_trans hlt hisz
          cases hg : listed.getD e.on true with
          | true =>
            have : e.on < listed.size := by rw [hsz]; exact hes
            simp only [Array.getD_eq_getD_getElem?, Array.getElem?_eq_getElem this, Option.getD_some] at hg ⊢
            exact hg
          | false =>
            obtain ⟨io', hio'⟩ := (hlist e.on hes).1 hg
            rcases List.mem_cons.1 hio' with h | h
            · cases h; omega
            · have := (List.pairwise_cons.1 hpw).1 _ h
              simp only [pairOk, Bool.and_eq_true] at this
              have h2 : i < e.on := by simpa using this.1.1
              omega
        rw [hnone] at this
        cases this
    · intro i hi
      obtain ⟨h1, o, ho, hrdy⟩ := mem_ready.1 hi
      have hisz := (Array.getElem?_eq_some_iff.1 ho).1
      obtain ⟨y, hy⟩ := (hlist i hisz).1 h1
      obtain ⟨pre, post, rfl⟩ := List.append_of_mem hy
      obtain ⟨o', ho', hok, hlt, hdeps⟩ := D.ok i y (hsub.subset hy)
      rw [ho] at ho'; cases ho'
      -- what y waits for is done
      have hdone : ∀ d ∈ y.deps, ∀ q ∈ pre ++ (i, y) :: post, q.1 ≠ d := by
        intro d hd q hqr e
        have direct : ∀ b, b ∈ depsOf o → ∀ q ∈ pre ++ (i, y) :: post, q.1 ≠ b := by
          intro b hb q hqr e
          obtain ⟨ed, he, hbd, rfl⟩ := mem_depsOf.1 hb
          have h2 := hrdy ed he hbd
          have hsz' : ed.on < ops.size := Nat.lt_trans (hlt _ hb) hisz
          have h3 := (hlist ed.on hsz').2 ⟨q.2, by rw [← e]; exact hqr⟩
          have : ed.on < listed.size := by rw [hsz]; exact hsz'
          simp only [Array.getD_eq_getD_getElem?, Array.getElem?_eq_getElem this, Option.getD_some] at h2 h3
          rw [h2] at h3; cases h3
        rcases hdeps d hd with h | ⟨q', hq', hqd, hdq⟩
        · exact direct d h q hqr e
        · exact hclo q' hq' (fun hin => direct _ hqd q' hin rfl) d hdq q hqr e
      have hpw2 := List.pairwise_append.1 hpw
      have hind : ∀ x ∈ pre.map (·.2), indep bd x y = true ∧ (∃ o, OpOk P n ops o x) ∧ ¬ M x.hid := by
        intro x hx
        obtain ⟨q, hq', rfl⟩ := List.mem_map.1 hx
        have h2 := hpw2.2.2 q hq' (i, y) (by simp)
        simp only [pairOk, Bool.and_eq_true, Bool.or_eq_true] at h2
        obtain ⟨oq, _, hokq, _⟩ := D.ok q.1 q.2 (hsub.subset (by simp [hq']))
        refine ⟨?_, ⟨oq, hokq⟩, hfresh q (by simp [hq'])⟩
        rcases h2.2 with h | h
        · exact absurd rfl (hdone q.1 (memN_iff.1 h) q (by simp [hq']))
        · exact h
      have hnod : (pre.map (·.2)).Pairwise (fun x x' => x.hid ≠ x'.hid) := by
        rw [List.pairwise_map]
        refine hpw2.1.imp ?_
        intro p q h e
        simp only [pairOk, Bool.and_eq_true, Bool.not_eq_true'] at h
        rw [e, Nat.beq_refl] at h
        simp at h
      rw [List.map_append, List.map_cons] at hv
      obtain ⟨σ, htk, hgr1, hfr1, hs⟩ := pubO_sound hs (take T hind hnod hs hB hv)
      replace hB := hB.trans hgr1
      replace hp0 : σ.fr POS = p0 := (congrFun hfr1 POS).trans hp0
      have key := TI_sound T (rd := rd) (nn := nn) (Q := Q) hs (hfresh (i, y) hy) hok.op hok.gd hok.dst hok.ok hB htk
      have next : ∀ a' W', (∃ σ' E', vcOps P T.get bd B (pre.map (·.2) ++ post.map (·.2)) σ' K ∧ Grow σ.G σ'.G ∧ Agree M E E' ∧ σ'.fr POS = σ.fr POS ∧ Sat w0 G0 n (fun k => M k ∨ k = y.hid) E' σ' a' W') → wpAnyIn (FW rd) nn P .any ops Q fuel (listed.setIfInBounds i true) a' W' := by
        rintro a' W' ⟨σ', E', hk, hg, hag', hp', hs'⟩
        have hsub' : (pre ++ post).Sublist (pre ++ (i, y) :: post) := List.Sublist.append_left (List.sublist_cons_self _ _) _
        have hni : ∀ q ∈ pre ++ post, q.1 ≠ i ∧ q.2.hid ≠ y.hid := by
          intro q hq'
          rcases List.mem_append.1 hq' with h | h
          · have h2 := hpw2.2.2 q h (i, y) (by simp)
            simp only [pairOk, Bool.and_eq_true, Bool.not_eq_true'] at h2
            refine ⟨?_, fun e => ?_⟩
            · have : q.1 < i := by simpa using h2.1.1
              omega
            · rw [e, Nat.beq_refl] at h2; simp at h2
          · have h2 := (List.pairwise_cons.1 hpw2.2.1).1 q h
            simp only [pairOk, Bool.and_eq_true, Bool.not_eq_true'] at h2
            refine ⟨?_, fun e => ?_⟩
            · have : i < q.1 := by simpa using h2.1.1
              omega
            · rw [e, Nat.beq_refl] at h2; simp at h2
        refine ih (rest := pre ++ post) (by simp at hlen ⊢; omega) (hsub'.trans hsub) ?_ (by simp [hsz]) ?_ ?_ ?_ (fun k hk => .inl (hMM k hk)) (fun k hk => (hag' k (hMM k hk)).trans (hAg k hk)) (hp'.trans hp0) hs' (hB.trans hg) (by rw [List.map_append]; exact hk)
        · intro j hj
          by_cases hji : j = i
          · subst hji
            have : j < listed.size := by rw [hsz]; exact hj
            constructor
            · intro h
              simp [Array.getElem?_setIfInBounds, this] at h
            · rintro ⟨io, hio⟩
              exact absurd rfl (hni _ hio).1
          · rw [getD_set_ne true (Ne.symm hji), hlist j hj]
            constructor
            · rintro ⟨io, hio⟩
              refine ⟨io, ?_⟩
              rcases List.mem_append.1 hio with h | h
              · simp [h]
              · rcases List.mem_cons.1 h with h | h
                · cases h; exact absurd rfl hji
                · simp [h]
            · rintro ⟨io, hio⟩
              exact ⟨io, hsub'.subset hio⟩
        · intro p hp hnot d hd q hq'
          by_cases hpy : p = (i, y)
          · subst hpy
            exact hdone d hd q (hsub'.subset hq')
          · refine hclo p hp (fun hin => hnot ?_) d hd q (hsub'.subset hq')
            rcases List.mem_append.1 hin with h | h
            · simp [h]
            · rcases List.mem_cons.1 h with h | h
              · exact absurd h hpy
              · simp [h]
        · intro p hp hm
          rcases hm with hm | hm
          · exact hfresh p (hsub'.subset hp) hm
          · exact (hni p hp).2 hm
        · intro k hk'
          rcases hk' with h | h
          · exact hM k h
          · rw [h]; exact htop (i, y) (hsub.subset hy)
      unfold wpOpIn
      rw [ho]
      simp only
      split
      · rename_i hw
        rw [if_pos hw] at key
        exact Oper.wpIn_mono next key
      · rename_i hw
        rw [if_neg hw] at key
        exact ⟨key.1, next _ _ key.2⟩

theorem draw_sound (T : Tab P) (hm : P.follows .mixedOrders = true) {all : List (Nat × IOper)} (D : Draw P n bd ops all) (hlen : all.length = ops.size) {rd : Option Nat} {nn : Nat} {Q : Exit → Act → World → Prop} {K : St → Prop} {top : Nat} (hbt : bd ≤ top) (htop : ∀ p ∈ all, bd ≤ p.2.hid ∧ p.2.hid < top)
    {id : Nat} {σ : St} {M : Nat → Prop} {E : Nat → Value} {a : Act} {W : World} (hM : ∀ k, M k → k < bd) (hs : Sat w0 G0 n M E σ a W) (hv : vcOps P T.get bd σ.G (all.map (·.2)) σ K)
    {M0 : Nat → Prop} {E0 : Nat → Value} (hMM : ∀ k, M0 k → M k) (hAg : Agree M0 E0 E) (hq : ∀ σ' a' W' M E, K σ' → Grow σ.G σ'.G → (∀ k, M k → k < top) → (∀ k, M0 k → M k) → Agree M0 E0 E → σ'.fr POS = σ.fr POS → Sat w0 G0 n M E σ' a' W' → Q .normal a' W') :
    (Code.region id ops true).wpIn (FW rd) nn P Q a W := by
  refine wpIn_region_any hm ?_
  have hs' : Sat w0 G0 n M E σ a { W with drawn := W.drawn + 1 } := ⟨hs.sim.keep ⟨rfl, rfl, rfl, Nat.le_refl _, fun _ _ => rfl⟩, hs.mfr, hs.mH, hs.fr, hs.size, hs.defers⟩
  refine any_sound T D hbt (fun p hp => (htop p hp).2) hq ops.size (rest := all) hlen (List.Sublist.refl _) ?_ (by simp) ?_ ?_ (fun k hk => Nat.lt_of_lt_of_le (hM k hk) hbt) hMM hAg rfl hs' (Grow.refl _) hv
  · intro i hi
    have : (Array.replicate ops.size false).getD i true = false := by simp [hi]
    simp only [this, true_iff]
    exact D.full i hi
  · intro p hp hnot
    exact absurd hp hnot
  · intro p hp hm'
    have := hM _ hm'
    have := (htop p hp).1
    omega
end
end Go.Pal
