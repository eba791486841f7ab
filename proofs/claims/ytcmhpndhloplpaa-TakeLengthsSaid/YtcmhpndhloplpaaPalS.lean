/- Functions to which own blocks are lent: from what is asked of their code to their contracts. -/
import Derived.Test.YtcmhpndhloplpaaPalK
namespace Go.Pal
open Go.RowKit

def LE.val (x : LE) : Value := match x.lb with
  | .cells _ _ => .pointer (some ⟨x.b, 0, none⟩)
  | .map _ _ => .map (some x.b)
def lentE (ls : List LE) (i : Nat) : Value := match ls[i]? with
  | some x => x.val
  | none => undef

def relArgs (E : Nat → Value) (m : Nat) : List SV → List Value → Prop
  | [], [] => True
  | sv :: svs, v :: vs => sv.rel E v ∧ sv.ment (· < m) ∧ relArgs E m svs vs
  | _, _ => False
def lookSV : List SV → Nat → SV
  | [], _ => .c .any
  | x :: r, i => match i with
    | 0 => x
    | i + 1 => lookSV r i
def lookOB : List OB → Nat → Option OB
  | [], _ => none
  | x :: r, i => match i with
    | 0 => some x
    | i + 1 => lookOB r i
def obOk (E : Nat → Value) (m : Nat) (x : LE) (ob : OB) : Prop := match x.lb with
  | .cells vs t => ∃ cs, ob = .cells (.named x.b) cs t ∧ relL E cs vs ∧ ∀ c ∈ cs, c.ment (· < m)
  | .map es c => ob = .map (.named x.b) es c
def obsOk (E : Nat → Value) (m : Nat) : List LE → List OB → Prop
  | [], [] => True
  | x :: r, ob :: obs => obOk E m x ob ∧ obsOk E m r obs
  | _, _ => False

/-- What the lent blocks hold at the end. -/
def finL (H : Nat → Option OB) : Nat → List LE → List LB → Prop
  | _, [], ns => ns = []
  | i, x :: r, ns => ∃ n : LB, (match n with
      | .cells vs t => ∃ cs, H i = some (.cells (.named x.b) cs t) ∧ toValsH H cs = some vs
      | .map es c => H i = some (.map (.named x.b) es c)) ∧ x.lb.alike n ∧
      match x.w with
      | true => ∃ ns', ns = n :: ns' ∧ finL H (i + 1) r ns'
      | false => n = x.lb ∧ finL H (i + 1) r ns

structure FinS (H : Nat → Option OB) (ls : List LE) (K : List LB → Prop) : Prop where
  ex : ∃ ns, finL H 0 ls ns ∧ K ns
def finS (rs : List IRes) (σ : St) (ls : List LE) (K : Value → List LB → Hp → Prop) : Prop := resF rs σ fun vs H G => FinS H ls fun ns => K (wrapV vs) ns G

structure CompAt (P : Program) (f : FuncId) (m : Nat) (ic : IC) (rs : List IRes) (nt : Nat) : Prop where
  ex : ∃ fn c b2, P.funcs[f]? = some fn ∧ fn.body = some c ∧ compC P fn.ntmps c m = some (ic, b2) ∧ compRes P fn.results.toList = some rs ∧ fn.ntmps = nt

section
variable {P : Program} {W : World} {G : Hp} {ls : List LE}

theorem relArgs_look {E : Nat → Value} {m : Nat} : ∀ {svs : List SV} {args : List Value}, relArgs E m svs args → ∀ i, (lookSV svs i).rel E (args[i]?.getD undef) ∧ (lookSV svs i).ment (· < m)
  | [], [], _, i => ⟨trivial, trivial⟩
  | sv :: svs, v :: vs, h, 0 => ⟨h.1, h.2.1⟩
  | sv :: svs, v :: vs, h, i + 1 => by simpa [lookSV] using relArgs_look h.2.2 i
  | [], _ :: _, h, _ => h.elim
  | _ :: _, [], h, _ => h.elim
theorem obsOk_look {E : Nat → Value} {m : Nat} : ∀ {ls : List LE} {obs : List OB}, obsOk E m ls obs → ∀ i ob, lookOB obs i = some ob → ∃ x, ls[i]? = some x ∧ obOk E m x ob
  | [], [], _, i, ob, e => by cases e
  | x :: ls, o :: obs, h, 0, ob, e => by cases e; exact ⟨x, rfl, h.1⟩
  | x :: ls, o :: obs, h, i + 1, ob, e => by
    obtain ⟨y, h1, h2⟩ := obsOk_look h.2 i ob e
    exact ⟨y, by simpa using h1, h2⟩
  | [], _ :: _, h, _, _, _ => h.elim
  | _ :: _, [], h, _, _, _ => h.elim

theorem finL_spec {H : Nat → Option OB} : ∀ {ls : List LE} {i : Nat} {ns : List LB}, finL H i ls ns → ∀ j x, ls[j]? = some x → ∃ n : LB, (match n with
      | .cells vs t => ∃ cs, H (i + j) = some (.cells (.named x.b) cs t) ∧ toValsH H cs = some vs
      | .map es c => H (i + j) = some (.map (.named x.b) es c)) ∧ (x.w = false → n = x.lb)
  | [], i, ns, _, j, x, e => by simp at e
  | y :: r, i, ns, h, j, x, e => by
    obtain ⟨n, h1, h2, h3⟩ := h
    cases j with
    | zero =>
      simp only [List.getElem?_cons_zero, Option.some.injEq] at e
      subst e
      refine ⟨n, by simpa using h1, fun hw => ?_⟩
      rw [hw] at h3
      exact h3.1
    | succ j =>
      have e' : r[j]? = some x := by simpa using e
      have : ∃ ns', finL H (i + 1) r ns' := by
        cases hw : y.w with
        | true => rw [hw] at h3; obtain ⟨ns', _, h4⟩ := h3; exact ⟨ns', h4⟩
        | false => rw [hw] at h3; exact ⟨ns, h3.2⟩
      obtain ⟨ns', h4⟩ := this
      have := finL_spec h4 j x e'
      rwa [show i + 1 + j = i + (j + 1) by omega] at this

theorem st_sound (T : Tab P) {f : FuncId} {m : Nat} {ic : IC} {rs : List IRes} {nt : Nat} (C : CompAt P f m ic rs nt) {args : List Value} (hn : args.length ≤ nt) (hsub : Sub G W) (hls : ∀ x ∈ ls, W.heap[x.b]? = some x.lb.obj ∧ G x.b = none ∧ x.lb.one) (hnd : (ls.map (·.b)).Nodup) (hm : ls.length ≤ m)
    {svs : List SV} {obs : List OB} (ha : relArgs (lentE ls) m svs args) (ho : obsOk (lentE ls) m ls obs) {K : Value → List LB → Hp → Prop}
    (h : vc P T.get (.no []) ic m ⟨lookSV svs, lookOB obs, G⟩ fun o _ σ => match o with
      | .norm => finS rs σ ls K
      | .ret => finS rs σ ls K
      | .exit _ => False) :
    Calls P f args.toArray W fun e W' => ∃ v ns G', e = .returned v ∧ K v ns G' ∧ LentTo W' ls ns ∧ Grow G G' ∧ Sub G' W' ∧ (∀ b o, G' b = some o → G b = some o ∨ W.heap.size ≤ b) ∧ Beneath ⟨W, lentW ls, []⟩ W' := by
  obtain ⟨fn, c, b2, hf, hb, hc, hr, hnt⟩ := C.ex
  subst hnt
  have hE : ∀ i x, ls[i]? = some x → lentE ls i = x.val := fun i x e => by simp [lentE, e]
  have hval : ∀ x : LE, blkOf x.val = some x.b := fun x => by cases x with | mk b w lb => cases lb <;> rfl
  have hmem : ∀ i x, ls[i]? = some x → x ∈ ls := fun i x e => List.mem_of_getElem? e
  have hok : ∀ i ob, lookOB obs i = some ob → ∃ x, ls[i]? = some x ∧ obOk (lentE ls) m x ob := obsOk_look ho
  have hlow : ∀ b, (∃ x ∈ ls, x.b = b) → b < W.heap.size ∧ G b = none := fun b ⟨x, hx, e⟩ => by
    obtain ⟨k1, k2, _⟩ := hls x hx
    subst e
    exact ⟨(Array.getElem?_eq_some_iff.1 k1).1, k2⟩
  have hsat : Sat ⟨W, fun b => ∃ x ∈ ls, x.b = b, []⟩ G fn.ntmps (fun k => k < m) (lentE ls) ⟨lookSV svs, lookOB obs, G⟩ { tmps := args.toArray ++ Array.replicate (fn.ntmps - args.toArray.size) undef, defers := [] } W := by
    refine ⟨⟨Beneath.refl _, hsub, fun b o h => .inl h, ?_, ?_, ?_, ?_⟩, fun i => (relArgs_look ha i).2, ?_, ?_, by simp; omega, rfl⟩
    · intro i ob e
      obtain ⟨x, hx, hob⟩ := hok i ob e
      obtain ⟨k1, k2, k3⟩ := hls x (hmem i x hx)
      obtain ⟨b, w, lb⟩ := x
      cases lb with
      | cells vs t =>
        obtain ⟨cs, rfl, h1, h2⟩ := hob
        exact ⟨b, vs, hE i _ hx, .inr ⟨_, hmem i _ hx, rfl⟩, k1, h1, k3, rfl⟩
      | map es c =>
        have hob : ob = .map (.named b) es c := hob
        subst hob
        exact ⟨b, hE i _ hx, .inr ⟨_, hmem i _ hx, rfl⟩, k1, rfl⟩
    · intro i ob v e e2
      obtain ⟨x, hx, hob⟩ := hok i ob e
      obtain ⟨b, w, lb⟩ := x
      cases lb with
      | cells vs t => obtain ⟨cs, rfl, _⟩ := hob; cases e2
      | map es c => have hob : ob = .map (.named b) es c := hob; subst hob; cases e2
    · intro i ob e e2 b hb
      obtain ⟨x, hx, hob⟩ := hok i ob e
      rw [hE i x hx, hval x] at hb
      cases hb
      exact (hls x (hmem i x hx)).2.1
    · intro i ob i' ob' b e e2 e3 e4 e5
      obtain ⟨x, hx, _⟩ := hok i ob e
      obtain ⟨x', hx', _⟩ := hok i' ob' e2
      rw [hE i x hx, hval x] at e4
      rw [hE i' x' hx', hval x'] at e5
      have h1 : (ls.map (·.b))[i]? = some b := by simp [hx]; simpa using e4
      have h2 : (ls.map (·.b))[i']? = some b := by simp [hx']; simpa using e5
      have l1 := (List.getElem?_eq_some_iff.1 h1).1
      exact (List.getElem?_inj l1 hnd).1 (h1.trans h2.symm)
    · intro i ob e
      obtain ⟨x, hx, hob⟩ := hok i ob e
      refine ⟨Nat.lt_of_lt_of_le (List.getElem?_eq_some_iff.1 hx).1 hm, ?_⟩
      obtain ⟨b, w, lb⟩ := x
      cases lb with
      | cells vs t => obtain ⟨cs, rfl, _, h2⟩ := hob; exact h2
      | map es c => have hob : ob = .map (.named b) es c := hob; subst hob; trivial
    · intro i
      have h1 := (relArgs_look ha i).1
      have : (args.toArray ++ Array.replicate (fn.ntmps - args.toArray.size) undef).getD i undef = args[i]?.getD undef := by
        rw [Array.getD_eq_getD_getElem?, Array.getElem?_append]
        split
        · simp
        · rename_i hlt
          have : args[i]? = none := List.getElem?_eq_none_iff.2 (by simpa using hlt)
          rw [this, Array.getElem?_replicate]
          split <;> rfl
      rw [this]; exact h1
  have hs : SatE (baseEnv (fun b => ∃ x ∈ ls, x.b = b) G W) [] fn.ntmps m (fun _ => False) (lentE ls) ⟨lookSV svs, lookOB obs, G⟩ { tmps := args.toArray ++ Array.replicate (fn.ntmps - args.toArray.size) undef, defers := [] } W :=
    SatE.of (r := ⟨W, fun b => ∃ x ∈ ls, x.b = b, []⟩) (G0 := G) (fun _ h => h) (fun _ h => h.elim) (Agree.refl _ _) ⟨baseEnv_at.2 ⟨Beneath.refl ⟨W, _, []⟩, fun b o h => .inl h, fun b h => h.elim (fun h => .inr h.1) (fun ⟨d, hd, _⟩ => by cases hd)⟩, fun b hb => (hlow b hb).1, hsub, marks_start⟩ (Grow.refl _) hsat
  refine body_sound T baseEnv_ok hf hb hc hr (K := fun _ vs H G => FinS H ls fun ns => K (wrapV vs) ns G) hs h ?_
  intro σ' W' M E vs H' G' ⟨ns, hfl, k1⟩ hg hd
  obtain ⟨hbl, hnewG, _⟩ := baseEnv_at.1 hd.at_
  have hsim := hd.sim
  -- each lent block, at the end
  have each : ∀ (H'' : Nat → Option OB), H'' = H' → ∀ (i : Nat) (x : LE) (n : LB), (match n with
      | .cells vs t => ∃ cs, H'' i = some (.cells (.named x.b) cs t) ∧ toValsH H'' cs = some vs
      | .map es c => H'' i = some (.map (.named x.b) es c)) → W'.heap[x.b]? = some n.obj ∧ n.one ∧ G' x.b = none := by
    rintro _ rfl i ⟨b, w, lb⟩ n hn
    cases n with
    | cells us t =>
      obtain ⟨cs, h1, h2⟩ := hn
      obtain ⟨b', vs', e1, e2, e3, e4, e5, e6⟩ := hsim.own i _ h1
      have e6 : b = b' := e6
      subst e6
      have := toValsH_rel (fun h ob v e e' => hsim.name e e') e4 h2
      subst this
      exact ⟨e3, e5, hsim.priv i _ h1 rfl b (by rw [e1]; rfl)⟩
    | map es c =>
      obtain ⟨b', e1, e2, e3, e6⟩ := hsim.own i _ hn
      have e6 : b = b' := e6
      subst e6
      exact ⟨e3, trivial, hsim.priv i _ hn rfl b (by rw [e1]; rfl)⟩
  have lent : ∀ (l : List LE) (i : Nat) (ns : List LB), finL H' i l ns → LentTo W' l ns := by
    intro l
    induction l with
    | nil => intro i ns h; exact h
    | cons x r ih =>
      intro i ns h
      obtain ⟨n, h1, h2, h3⟩ := h
      obtain ⟨q1, q2, _⟩ := each H' rfl i x n h1
      cases hw : x.w with
      | true =>
        rw [hw] at h3
        obtain ⟨ns', rfl, h4⟩ := h3
        simp only [LentTo, hw]
        exact ⟨q1, q2, h2, ih _ _ h4⟩
      | false =>
        rw [hw] at h3
        simp only [LentTo, hw]
        exact ih _ _ h3.2
  refine ⟨_, ns, G', rfl, k1, lent ls 0 ns hfl, hg, hsim.sub, ?_, ?_⟩
  · intro b o e
    rcases hnewG b o e with h | h | ⟨x, hx, rfl⟩
    · exact .inl h
    · exact .inr h
    · obtain ⟨j, hj, e2⟩ := List.mem_iff_getElem.1 hx
      obtain ⟨n, h1, _⟩ := finL_spec hfl j x (by rw [List.getElem?_eq_getElem hj, e2])
      have := (each H' rfl _ x n h1).2.2
      rw [this] at e; cases e
  · refine ⟨hbl.os, hbl.tape, hbl.output, hbl.size, fun k hk hn => ?_⟩
    by_cases hin : ∃ x ∈ ls, x.b = k
    · obtain ⟨x, hx, rfl⟩ := hin
      have hw : x.w = false := by
        cases hw : x.w with
        | false => rfl
        | true => exact absurd ⟨x, hx, hw, rfl⟩ hn
      obtain ⟨j, hj, e2⟩ := List.mem_iff_getElem.1 hx
      obtain ⟨n, h1, h2⟩ := finL_spec hfl j x (by rw [List.getElem?_eq_getElem hj, e2])
      have h3 := (each H' rfl _ x n h1).1
      rw [h2 hw] at h3
      exact h3.trans (hls x hx).1.symm
    · exact hbl.block k hk hin
end
end Go.Pal
