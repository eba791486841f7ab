/- Calls; and every operation together. -/
import Derived.Test.YtcmhpndhloplpaaPalR
namespace Go.Pal
open Go.RowKit

theorem hasBody_of {P : Program} {f : FuncId} (h : hasBodyB P f = true) : HasBody P f := by
  unfold hasBodyB at h
  split at h
  · rename_i fn hf
    simp only [Bool.and_eq_true, Bool.not_eq_true'] at h
    exact ⟨fn, hf, h.1, h.2⟩
  · cases h

def joinHp (G G1 : Hp) : Hp := fun b => match G b with
  | some o => some o
  | none => G1 b
theorem joinHp_left (G G1 : Hp) : Grow G (joinHp G G1) := fun b o h => by simp [joinHp, h]
theorem joinHp_right {G G1 : Hp} {W : World} (h : Sub G W) (h1 : Sub G1 W) : Grow G1 (joinHp G G1) := fun b o e => by
  unfold joinHp
  cases hg : G b with
  | none => exact e
  | some o2 => have a := h b o2 hg; have c := h1 b o e; rw [a] at c; exact c
theorem joinHp_sub {G G1 : Hp} {W : World} (h : Sub G W) (h1 : Sub G1 W) : Sub (joinHp G G1) W := fun b o e => by
  unfold joinHp at e
  cases hg : G b with
  | none => rw [hg] at e; exact h1 b o e
  | some o2 => rw [hg] at e; cases e; exact h b o hg

section
variable {P : Program} {o : Oper} {a : Act} {W : World} {rd : Option Nat} {nn : Nat} {Q : Exit → Act → World → Prop}
variable {w0 : Root} {G0 Gr G : Hp} {M : Nat → Prop} {E : Nat → Value} {H Hv : Nat → Option OB} {hid : Nat} {K : SV → List (Nat × Option OB) → Hp → Prop} {fr : Nat → SV} {tab : FuncId → Option PSpec}

theorem SV.of_rel (E : Nat → Value) (v : Value) : (SV.of v).rel E v := S1.of_rel E v
theorem SV.of_ment (M : Nat → Prop) (v : Value) : (SV.of v).ment M := S1.of_ment M v

/-- A contract, at a call. -/
theorem call_sound (C : Ctx w0 G0 Gr G M E H Hv hid fr a W) {g : FuncId} {sh : List Value → List Value} {s : PSpec} (hs : Sound P g sh s) {args : List Value} (hd : denCall hid Gr G K args s) :
    Calls P g (sh args).toArray W fun e W' => ∃ v, e = .returned v ∧ OpPost w0 G0 M E H hid K v W' := by
  have hsub : Sub Gr W := C.sim.sub.grow C.gr
  cases s with
  | st pre post => exact hd.elim
  | seq pre post => exact hd.elim
  | fn pre val =>
    refine (hs args Gr W hsub hd.h).mono ?_
    rintro e W' ⟨rfl, hB⟩
    exact ⟨_, rfl, OpPost.quiet (C.sim.keep hB) C.mH hd.k.out (SV.of_rel E _) (SV.of_ment M _)⟩
  | sca pre post =>
    refine (hs args Gr W hsub hd.h).mono ?_
    rintro e W' ⟨v, rfl, hp, hB⟩
    exact ⟨_, rfl, OpPost.quiet (C.sim.keep hB) C.mH (hd.k v hp).out (SV.of_rel E _) (SV.of_ment M _)⟩
  | rel pre post =>
    refine (hs.2 args Gr W hsub hd.h).mono ?_
    rintro e W' ⟨v, G1, rfl, hp, hg, hs1, hn, hB⟩
    have hk := C.sim.keep hB
    have hgr := joinHp_right hk.sub hs1
    have hsim : Sim w0 G0 E H (joinHp G G1) W' := hk.grow (joinHp_left G G1) (joinHp_sub hk.sub hs1) (fun b o e => by
      unfold joinHp at e
      cases hgb : G b with
      | some o' => rw [hgb] at e; cases e; exact .inl rfl
      | none =>
        rw [hgb] at e
        rcases hn b o e with h | h
        · have := C.gr b o h; rw [hgb] at this; cases this
        · exact .inr ⟨C.sim.below.mine_new h, fun h1 ob e1 e2 => by have := (OB.blk (C.sim.own h1 ob e1) e2).2; omega⟩)
    exact ⟨v, rfl, OpPost.quiet hsim C.mH (hd.k v _ (joinHp_left G G1) (hs.1 _ _ _ _ hgr hp)).out (SV.of_rel E _) (SV.of_ment M _)⟩
  | own t k pre post =>
    refine (hs.2 args Gr W hsub hd.h).mono ?_
    rintro e W' ⟨v, n, vs, G1, rfl, hp, ⟨a0, c0, hv⟩, hown, hone, hnone, hg, hs1, hn, hB⟩
    have hk := C.sim.keep hB
    have hgr := joinHp_right hk.sub hs1
    have hown' : W'.ownsRow 0 t k v n vs := ⟨hown.1, hown.2.imp id (fun ⟨g, cap, cur, e1, e2, r⟩ => ⟨g, cap, cur, e1, Nat.zero_le _, r⟩)⟩
    have hblk : ∀ b, blkOf v = some b → W.heap.size ≤ b := fun b hb => by
      rw [blk_own ⟨_, _, _, hv⟩] at hb
      exact (hown.lt b hb).1
    have hnew := C.sim.new hB (i := hid) (v := v) (ob := .row none n vs t k) C.fresh C.mH ⟨by rw [upd_same]; exact hown', hone, fun b hb => by rw [upd_same] at hb; exact C.sim.below.mine_new (hblk b hb)⟩ rfl hblk
    have hsim : Sim w0 G0 (upd E hid v) (upd H hid (some (.row none n vs t k))) (joinHp G G1) W' := hnew.grow (joinHp_left G G1) (joinHp_sub hk.sub hs1) (fun b o e => by
      unfold joinHp at e
      cases hgb : G b with
      | some o' => rw [hgb] at e; cases e; exact .inl rfl
      | none =>
        rw [hgb] at e
        rcases hn b o e with h | h
        · have := C.gr b o h; rw [hgb] at this; cases this
        · refine .inr ⟨C.sim.below.mine_new h, fun h1 ob e1 e2 => ?_⟩
          by_cases hh : h1 = hid
          · subst hh; rw [upd_same] at e2; have := hnone b e2; rw [this] at e; cases e
          · rw [upd_other _ _ hh] at e1 e2; have := (OB.blk (C.sim.own h1 ob e1) e2).2; omega)
    refine ⟨v, rfl, _, _, _, upd E hid v, (hd.k n vs _ (joinHp_left G G1) (hs.1 _ _ _ _ _ hgr hp)).out, ⟨by rw [upd_same], a0, c0, by rw [upd_same]; exact hv⟩, .inr rfl, Agree.upd E v C.fresh, hsim, ?_⟩
    intro k ob e
    simp only [updH] at e
    by_cases hkk : k = hid
    · subst hkk; rw [upd_same] at e; cases e; exact ⟨.inr rfl, trivial⟩
    · rw [upd_other _ _ hkk] at e; exact ⟨.inl (C.mH k ob e).1, OB.ment_mono (fun _ h => .inl h) (C.mH k ob e).2⟩

/-- Own blocks that are lent. -/
theorem lend_fact (hsim : Sim w0 G0 E H G W) : ∀ {hs : List (Nat × LE)}, lendOk H hs → ∀ p ∈ hs, ∃ ob, H p.1 = some ob ∧ ob.pub = none ∧ blkOf (E p.1) = some p.2.b ∧ W.heap[p.2.b]? = some p.2.lb.obj ∧ p.2.lb.one ∧
    ∀ W' (n : LB), W'.heap[p.2.b]? = some n.obj → n.one → blkOf (E p.1) = some p.2.b → p.2.lb.alike n → (n.ob p.2.b).ok w0 E W' p.1
  | [], _, p, hp => by cases hp
  | (h, le) :: r, hl, p, hp => by
    rcases List.mem_cons.1 hp with rfl | hp
    · obtain ⟨b, w, lb⟩ := le
      cases lb with
      | cells vs t =>
        obtain ⟨⟨cs, h1, h2⟩, _⟩ := hl
        obtain ⟨b', vs', e1, e2, e3, e4, e5, e6⟩ := hsim.own h _ h1
        have e6 : b = b' := e6
        subst e6
        have := toValsH_rel (fun h ob v e e' => hsim.name e e') e4 h2
        subst this
        refine ⟨_, h1, rfl, by rw [e1]; rfl, e3, e5, ?_⟩
        intro W' n hw hone _ hk
        cases n with
        | cells us t' => exact ⟨b, us, e1, e2, hw, relL_of E us, hone, rfl⟩
        | map => exact hk.elim
      | map es c =>
        obtain ⟨h1, _⟩ := hl
        obtain ⟨b', e1, e2, e3, e6⟩ := hsim.own h _ h1
        have e6 : b = b' := e6
        subst e6
        refine ⟨_, h1, rfl, by rw [e1]; rfl, e3, trivial, ?_⟩
        intro W' n hw hone _ hk
        cases n with
        | cells us t' => exact hk.elim
        | map es' c' => exact ⟨b, e1, e2, hw, rfl⟩
    · exact lend_fact hsim hl.2 p hp

theorem back_spec {W' : World} : ∀ {hs : List (Nat × LE)} {ns : List LB} {H : Nat → Option OB}, (hs.map (·.1)).Nodup → LentTo W' (hs.map (·.2)) ns → ∀ k ob', updH H (backU hs ns) k = some ob' →
    (H k = some ob' ∧ ∀ le, (k, le) ∈ hs → le.w = false) ∨ ∃ (le : LE) (n : LB), (k, le) ∈ hs ∧ le.w = true ∧ ob' = n.ob le.b ∧ W'.heap[le.b]? = some n.obj ∧ n.one ∧ le.lb.alike n
  | [], ns, H, _, _, k, ob', e => .inl ⟨e, fun le h => by cases h⟩
  | (h, le) :: r, ns, H, hnd, ht, k, ob', e => by
    obtain ⟨hn1, hn2⟩ := List.nodup_cons.1 hnd
    have hnot : ∀ le', (h, le') ∉ r := fun le' hm => hn1 (List.mem_map.2 ⟨_, hm, rfl⟩)
    simp only [List.map_cons, LentTo] at ht
    simp only [backU] at e
    cases hw : le.w with
    | false =>
      rw [hw] at ht e
      rcases back_spec hn2 ht k ob' e with ⟨h1, h2⟩ | ⟨le', n, h1, h2⟩
      · refine .inl ⟨h1, fun le' hm => ?_⟩
        rcases List.mem_cons.1 hm with hm | hm
        · cases hm; exact hw
        · exact h2 le' hm
      · exact .inr ⟨le', n, by simp [h1], h2⟩
    | true =>
      rw [hw] at ht e
      cases ns with
      | nil => exact ht.elim
      | cons n ns =>
        obtain ⟨t1, t2, t4, t3⟩ := ht
        simp only [updH] at e
        rcases back_spec hn2 t3 k ob' e with ⟨h1, h2⟩ | ⟨le', n', h1, h2⟩
        · by_cases hk : k = h
          · subst hk
            rw [upd_same] at h1
            cases h1
            exact .inr ⟨le, n, by simp, hw, rfl, t1, t2, t4⟩
          · rw [upd_other _ _ hk] at h1
            refine .inl ⟨h1, fun le' hm => ?_⟩
            rcases List.mem_cons.1 hm with hm | hm
            · cases hm; exact absurd rfl hk
            · exact h2 le' hm
        · exact .inr ⟨le', n', by simp [h1], h2⟩

theorem lend_sound (hsim : Sim w0 G0 E H G W) {hs : List (Nat × LE)} {ns : List LB} {W' : World} (hl : lendOk H hs) (hnd : (hs.map (·.1)).Nodup) (hB : Beneath ⟨W, lentW (hs.map (·.2)), []⟩ W') (ht : LentTo W' (hs.map (·.2)) ns) :
    Sim w0 G0 E (updH H (backU hs ns)) G W' ∧ ∀ k ob', updH H (backU hs ns) k = some ob' → ∃ ob, H k = some ob ∧ (ob' = ob ∨ ∀ M, ob'.ment M) := by
  have fact := lend_fact hsim hl
  have spec := fun k ob' e => back_spec hnd ht (H := H) k ob' e
  -- a block that is written is a lent one
  have hsame : ∀ b, b < W.heap.size → (∀ p ∈ hs, p.2.w = true → p.2.b ≠ b) → W'.heap[b]? = W.heap[b]? := fun b hb hn => hB.block b hb (fun ⟨x, hx, hw, e⟩ => by
    obtain ⟨p, hp, rfl⟩ := List.mem_map.1 hx
    exact hn p hp hw e)
  have base : ∀ k ob', updH H (backU hs ns) k = some ob' → ∃ ob, H k = some ob ∧ (ob'.pub = none → ob.pub = none) := fun k ob' e => by
    rcases spec k ob' e with ⟨h1, _⟩ | ⟨le, n, hm, hw, rfl, _⟩
    · exact ⟨ob', h1, id⟩
    · obtain ⟨ob, f1, f2, _⟩ := fact _ hm
      exact ⟨ob, f1, fun _ => f2⟩
  have kept : ∀ k ob, H k = some ob → (∀ le, (k, le) ∈ hs → le.w = false) → ∀ b, blkOf (E k) = some b → W'.heap[b]? = W.heap[b]? := fun k ob hk hno b hb => by
    refine hsame b (OB.blk (hsim.own k ob hk) hb).2 (fun p hp hw e => ?_)
    obtain ⟨ob2, f1, f2, f3, _⟩ := fact p hp
    have := hsim.inj p.1 ob2 k ob b f1 hk f2 (e ▸ f3) hb
    have h2 := hno p.2 (by rw [← this]; exact hp)
    rw [hw] at h2; cases h2
  refine ⟨⟨?_, ?_, hsim.newG, ?_, ?_, ?_, ?_⟩, ?_⟩
  · refine ⟨hB.os.trans hsim.below.os, hB.tape.trans hsim.below.tape, hB.output.trans hsim.below.output, Nat.le_trans hsim.below.size hB.size, fun k hk hn => ?_⟩
    refine (hsame k (Nat.lt_of_lt_of_le hk hsim.below.size) (fun p hp hw e => ?_)).trans (hsim.below.block k hk hn)
    obtain ⟨ob, f1, f2, f3, _⟩ := fact p hp
    rcases (OB.blk (hsim.own _ _ f1) (e ▸ f3)).1 with h | h
    · omega
    · exact hn h
  · intro b o e
    have h1 := hsim.sub b o e
    rw [hsame b (Array.getElem?_eq_some_iff.1 h1).1 (fun p hp hw e2 => ?_)]
    · exact h1
    · obtain ⟨ob, f1, f2, f3, _⟩ := fact p hp
      have := hsim.priv _ _ f1 f2 b (e2 ▸ f3)
      rw [this] at e; cases e
  · intro k ob' e
    rcases spec k ob' e with ⟨h1, h2⟩ | ⟨le, n, hm, hw, rfl, t1, t2, t4⟩
    · exact OB.ok_kept (hsim.own k ob' h1) (kept k ob' h1 h2)
    · obtain ⟨ob, f1, f2, f3, f4, f5, f6⟩ := fact _ hm
      exact f6 W' n t1 t2 f3 t4
  · intro k ob' v e e2
    rcases spec k ob' e with ⟨h1, h2⟩ | ⟨le, n, hm, hw, rfl, t1, t2, t4⟩
    · obtain ⟨e3, e4⟩ := hsim.pub k ob' v h1 e2
      exact ⟨e3, fun b hb => by rw [kept k ob' h1 h2 b (by rw [e3]; exact hb)]; exact e4 b hb⟩
    · cases n <;> cases e2
  · intro k ob' e e2 b hb
    obtain ⟨ob, h1, h2⟩ := base k ob' e
    exact hsim.priv k ob h1 (h2 e2) b hb
  · intro k ob' k' ob2 b e e2 e3 e4 e5
    obtain ⟨ob, h1, h2⟩ := base k ob' e
    obtain ⟨ob3, h3, _⟩ := base k' ob2 e2
    exact hsim.inj k ob k' ob3 b h1 h3 (h2 e3) e4 e5
  · intro k ob' e
    rcases spec k ob' e with ⟨h1, _⟩ | ⟨le, n, hm, hw, rfl, _⟩
    · exact ⟨ob', h1, .inl rfl⟩
    · obtain ⟨ob, f1, _⟩ := fact _ hm
      refine ⟨ob, f1, .inr fun M => ?_⟩
      cases n with
      | cells vs t => intro c hc; obtain ⟨v, _, rfl⟩ := List.mem_map.1 hc; exact S1.of_ment M v
      | map => trivial

theorem callv_sound (C : Ctx w0 G0 Gr G M E H Hv hid fr a W) {g : FuncId} {sh : List Value → List Value} {s : PSpec} (hs : Sound P g sh s) {args : List Value} (hd : denCallv Hv hid Gr G K args s) :
    Calls P g (sh args).toArray W fun e W' => ∃ v, e = .returned v ∧ OpPost w0 G0 M E H hid K v W' := by
  cases s with
  | fn pre val => exact call_sound C hs hd
  | sca pre post => exact call_sound C hs hd
  | rel pre post => exact call_sound C hs hd
  | own t k pre post => exact call_sound C hs hd
  | seq pre post => exact hd.elim
  | st pre post =>
    obtain ⟨ls, hl, hnd, hpre, hk⟩ := hd
    have hl' : lendOk H ls := by
      clear hnd hpre hk
      have hv : ∀ cs vs, toValsH Hv cs = some vs → toValsH H cs = some vs := by
        intro cs
        induction cs with
        | nil => intro vs h; exact h
        | cons c cs ih =>
          intro vs h
          simp only [toValsH] at h ⊢
          split at h
          · rename_i u hu
            split at h
            · rename_i us hus
              have : c.toValH H = some u := by
                cases c <;> simp only [S1.toValH] at hu ⊢ <;> first | exact hu | skip
                all_goals
                  split at hu <;> first | (cases hu; done) | skip
                  all_goals (rename_i e; rw [C.view _ _ e]; exact hu)
              rw [this, ih us hus]
              exact h
            · cases h
          · cases h
      induction ls with
      | nil => trivial
      | cons p r ih =>
        obtain ⟨h, ⟨b, w, lb⟩⟩ := p
        refine ⟨?_, ih hl.2⟩
        cases lb with
        | cells vs t => obtain ⟨cs, e1, e2⟩ := hl.1; exact ⟨cs, C.view _ _ e1, hv _ _ e2⟩
        | map es c => exact C.view _ _ hl.1
    have hsub : Sub Gr W := C.sim.sub.grow C.gr
    have fact := lend_fact C.sim hl'
    have hpv : ∀ x ∈ ls.map (·.2), W.heap[x.b]? = some x.lb.obj ∧ Gr x.b = none ∧ x.lb.one := by
      intro x hx
      obtain ⟨p, hp, rfl⟩ := List.mem_map.1 hx
      obtain ⟨ob, f1, f2, f3, f4, f5, _⟩ := fact p hp
      refine ⟨f4, ?_, f5⟩
      cases hg : Gr p.2.b with
      | none => rfl
      | some o =>
        have := C.sim.priv _ _ f1 f2 p.2.b f3
        rw [C.gr _ _ hg] at this; cases this
    have hbn : ((ls.map (·.2)).map (·.b)).Nodup := by
      rw [List.map_map]
      unfold List.Nodup at hnd ⊢
      rw [List.pairwise_map] at hnd ⊢
      refine hnd.imp_of_mem ?_
      intro p q hp hq hne e
      obtain ⟨ob, f1, f2, f3, _⟩ := fact p hp
      obtain ⟨ob2, g1, g2, g3, _⟩ := fact q hq
      have e : p.2.b = q.2.b := e
      exact hne (C.sim.inj p.1 ob q.1 ob2 p.2.b f1 g1 f2 f3 (e ▸ g3))
    refine (hs.2 args (ls.map (·.2)) Gr W hsub hpv hbn hpre).mono ?_
    rintro e W' ⟨v, ns, G1, rfl, hp, hto, hg, hs1, hn, hB⟩
    obtain ⟨hsim2, hob⟩ := lend_sound C.sim hl' hnd hB hto
    have hgr := joinHp_right hsim2.sub hs1
    have hlow : ∀ k ob' b, updH H (backU ls ns) k = some ob' → blkOf (E k) = some b → b < W.heap.size := fun k ob' b e1 e2 => by
      obtain ⟨ob, h1, _⟩ := hob k ob' e1
      exact (OB.blk (C.sim.own k ob h1) e2).2
    have hsim : Sim w0 G0 E (updH H (backU ls ns)) (joinHp G G1) W' := hsim2.grow (joinHp_left G G1) (joinHp_sub hsim2.sub hs1) (fun b o e => by
      unfold joinHp at e
      cases hgb : G b with
      | some o' => rw [hgb] at e; cases e; exact .inl rfl
      | none =>
        rw [hgb] at e
        rcases hn b o e with h | h
        · have := C.gr b o h; rw [hgb] at this; cases this
        · exact .inr ⟨C.sim.below.mine_new h, fun h1 ob e1 e2 => by have := hlow h1 ob b e1 e2; omega⟩)
    obtain ⟨sv', hk', hr', hm'⟩ := fork_elim (hk v ns _ (joinHp_left G G1) (hs.1 _ _ _ _ _ _ hgr hp)).out (SV.of_rel E v) (SV.of_ment M v)
    refine ⟨v, rfl, sv', _, _, E, hk', hr', SV.ment_mono (fun _ h => .inl h) hm', Agree.refl _ _, hsim, ?_⟩
    intro k ob' e1
    obtain ⟨ob, h1, h2⟩ := hob k ob' e1
    refine ⟨.inl (C.mH k ob h1).1, ?_⟩
    rcases h2 with rfl | h2
    · exact OB.ment_mono (fun _ h => .inl h) (C.mH k _ h1).2
    · exact h2 _

theorem run_call_fn {f : FuncId} {args : Array Operand} {ts : Array TypeId} {x : Operand} {first cap : Array Value} (hb : HasBody P f) (hx : a.eval x = .func (.func f) first cap) (hop : o.op = .call { callee := .value x, args := args, argTypes := ts }) :
    (execOp a.eval o).run P W = .ok (.enter f (first ++ args.map a.eval ++ cap)) W := by
  obtain ⟨fn, hf, hb, hn⟩ := hb
  have hn' : ¬ fn.name = "runtime.NumGoroutine" := by simpa using hn
  have hb' : fn.body ≠ none := by intro e; rw [e] at hb; cases hb
  simp [execOp, hop, resolve, hx, Deferred.ofValue, invoke, callFunc, hf, hb', hn']

theorem op_call (C : Ctx w0 G0 Gr G M E H Hv hid fr a W) (T : Tab P) {f : FuncId} {args : Array Operand} {ts : Array TypeId} {ys : List Opd} (hys : compOpds args.toList = some ys) (hop : o.op = .call { callee := .value (.func f), args := args, argTypes := ts })
    (hd : (ev T.get fr Hv hid (.call f ys)).den P hid Gr G K) : Goal P o a W rd nn Q w0 G0 M E H hid K := by
  simp only [ev] at hd
  split at hd
  case h_2 => exact hd.elim
  rename_i vs hvs
  split at hd
  case h_2 => exact hd.elim
  rename_i s hs
  obtain ⟨h1, hb⟩ := T.ok f s hs
  have hargs := opds_rel C.rfr (fun h ob v e e' => C.sim.name (C.view h ob e) e') hys hvs
  have hrun := run_call_fn (P := P) (W := W) (o := o) (a := a) (x := .func f) (first := #[]) (cap := #[]) hb rfl hop
  have e1 : (#[] ++ args.map a.eval ++ #[] : Array Value) = (id vs).toArray := by
    rw [← hargs]; apply Array.ext'; simp
  rw [e1] at hrun
  exact wp_of_enter (by simp [hop]) hrun (call_sound C h1 hd)

theorem op_callv (C : Ctx w0 G0 Gr G M E H Hv hid fr a W) {args : Array Operand} {ts : Array TypeId} {x : Operand} {x' : Opd} {ys : List Opd} (hx : compOpd x = some x') (hys : compOpds args.toList = some ys) (hop : o.op = .call { callee := .value x, args := args, argTypes := ts })
    (hd : (ev tab fr Hv hid (.callv x' ys)).den P hid Gr G K) : Goal P o a W rd nn Q w0 G0 M E H hid K := by
  have rx := opd_rel C.rfr hx
  simp only [ev] at hd
  split at hd
  case h_2 => exact hd.elim
  rename_i vs hvs
  split at hd
  case h_2 => exact hd.elim
  rename_i v ex
  rw [ex] at rx
  obtain ⟨s, ⟨g, first, cap, rfl, hb, h1⟩, ⟨hd⟩⟩ := hd
  have hargs := opds_rel C.rfr (fun h ob v e e' => C.sim.name (C.view h ob e) e') hys hvs
  have hrun := run_call_fn (P := P) (W := W) (o := o) (a := a) (x := x) (first := first) (cap := cap) hb rx hop
  have e1 : (first ++ args.map a.eval ++ cap : Array Value) = (first.toList ++ vs ++ cap.toList).toArray := by
    rw [← hargs]; apply Array.ext'; simp
  rw [e1] at hrun
  exact wp_of_enter (by simp [hop]) hrun (callv_sound C h1 hd)

theorem op_nilc (C : Ctx w0 G0 Gr G M E H Hv hid fr a W) {x : Operand} {x' : Opd} (hx : compOpd x = some x') (hop : o.op = .nilCheck x)
    (hd : (ev tab fr Hv hid (.nilc x')).den P hid Gr G K) : Goal P o a W rd nn Q w0 G0 M E H hid K := by
  have rx := opd_rel C.rfr hx
  have mx := opd_ment C.mfr x'
  simp only [ev] at hd
  split at hd
  case h_5 => exact hd.elim
  case h_3 =>
    rename_i h off ex
    rw [ex] at rx mx
    obtain ⟨b, e1, e2⟩ := rx
    exact C.quiet (v := .pointer (some ⟨b, off, none⟩)) (by simp [hop]) (by simp [execOp, hop, e2]) hd ⟨b, e1, rfl⟩ mx
  · rename_i h off ex
    rw [ex] at rx mx
    obtain ⟨b, e1, e2⟩ := rx
    exact C.quiet (v := .pointer (some ⟨b, off, none⟩)) (by simp [hop]) (by simp [execOp, hop, e2]) hd ⟨b, e1, rfl⟩ mx
  · rename_i h off ex
    rw [ex] at rx mx
    obtain ⟨b, n, c, e1, e2⟩ := rx
    exact C.quiet (v := .pointer (some ⟨b, off, none⟩)) (by simp [hop]) (by simp [execOp, hop, e2]) hd ⟨b, n, c, e1, rfl⟩ mx
  · rename_i p ex
    rw [ex] at rx
    have rx : a.eval x = .pointer (some p) := rx
    exact C.quiet (v := .pointer (some p)) (by simp [hop]) (by simp [execOp, hop, rx]) hd rfl trivial

theorem op_ext (C : Ctx w0 G0 Gr G M E H Hv hid fr a W) {x : Operand} {x' : Opd} {i : Nat} (hx : compOpd x = some x') (hop : o.op = .extract x i)
    (hd : (ev tab fr Hv hid (.ext x' i)).den P hid Gr G K) : Goal P o a W rd nn Q w0 G0 M E H hid K := by
  have rx := opd_rel C.rfr hx
  simp only [ev] at hd
  split at hd
  case h_2 => exact hd.elim
  rename_i vs ex
  rw [ex] at rx
  have rx : a.eval x = .tuple vs := rx
  split at hd
  case h_2 => exact hd.elim
  rename_i v hv
  have hv' : vs[i]? = some v := by simpa using hv
  exact C.quiet (v := v) (by simp [hop]) (by simp [execOp, hop, rx, Instr.extract, hv']) hd (SV.of_rel E v) (SV.of_ment M v)

theorem run_value {s : Sem Value} {v : Value} (h : s.run P W = .ok v W) : Sem.run P (do let x ← s; pure (Next.value x)) W = .ok (.value v) W := by
  simp [h]
theorem run_guard {op : BinOp} {t : TypeId} {x y : Operand} {v w u : Value} (h : Sem.run P (do eqGuard op t (.tmp 0) (.tmp 0) v w; binOp op t v w) W = .ok u W) : Sem.run P (do eqGuard op t x y v w; binOp op t v w) W = .ok u W := by
  by_cases hn : (v = .nilIface ∧ w = .nilIface)
  · obtain ⟨rfl, rfl⟩ := hn
    by_cases ho : (op matches .eql | .neq) = true
    · by_cases hxy : (x matches .const _) = true ∨ (y matches .const _) = true
      · -- the literal nil: no look
        have e1 : eqGuard op t x y .nilIface .nilIface = pure () := by
          unfold eqGuard
          cases op <;> cases x <;> cases y <;> first | rfl | (simp at hxy; done) | (simp at ho; done)
        rw [e1]
        have e2 : ∀ W, Sem.run P (eqGuard op t (.tmp 0) (.tmp 0) .nilIface .nilIface) W = (Sem.run P (do if ← Op.eqGuardIn Op.maxDepth t .nilIface .nilIface then unsupported (.noEntry "binop/eql: two nil values of an interface type with methods, neither of them the literal nil")) W) := fun W => by
          unfold eqGuard
          cases op <;> first | rfl | (simp at ho; done)
        rw [Sem.run_bind, e2] at h
        simp only [pure_bind]
        revert h
        rw [Sem.run_bind]
        cases hg : Sem.run P (Op.eqGuardIn Op.maxDepth t .nilIface .nilIface) W with
        | ok b w' =>
          simp only [Result.andThen]
          have hw : w' = W := by
            obtain ⟨dd, hdd⟩ : ∃ dd, Op.maxDepth = dd + 1 := ⟨9999, rfl⟩
            rw [hdd] at hg
            cases hu : P.underlying t with
            | none =>
              simp [Op.eqGuardIn, underlying, hu, Sem.run_bind, stuck, Result.andThen] at hg
            | some d =>
              simp only [Op.eqGuardIn, Sem.run_bind, run_underlying hu, Result.andThen] at hg
              cases d <;> simp at hg <;> exact hg.2.symm
          subst hw
          cases b
          · intro h; simpa using h
          · intro h; simp [unsupported] at h
        | _ => intro h; simp [Result.andThen] at h
      · have e1 : eqGuard op t x y .nilIface .nilIface = eqGuard op t (.tmp 0) (.tmp 0) .nilIface .nilIface := by
          unfold eqGuard
          cases op <;> cases x <;> cases y <;> first | rfl | (simp at hxy; done)
        rw [e1]; exact h
    · have e1 : eqGuard op t x y .nilIface .nilIface = eqGuard op t (.tmp 0) (.tmp 0) .nilIface .nilIface := by
        unfold eqGuard
        cases op <;> first | rfl | (simp at ho; done)
      rw [e1]; exact h
  · have e1 : eqGuard op t x y v w = eqGuard op t (.tmp 0) (.tmp 0) v w := by
      unfold eqGuard
      cases v <;> cases w <;> first | rfl | (simp at hn; done)
    rw [e1]; exact h
theorem op_pur (C : Ctx w0 G0 Gr G M E H Hv hid fr a W) {p : POp} {xs : List Operand} {ys : List Opd} (hys : compOpds xs = some ys) (hnd : ∀ c, o.op ≠ .defer c) (hrun : ∀ v, (p.sem (xs.map a.eval)).run P W = .ok v W → (execOp a.eval o).run P W = .ok (.value v) W)
    (hd : (ev tab fr Hv hid (.pur p ys)).den P hid Gr G K) : Goal P o a W rd nn Q w0 G0 M E H hid K := by
  simp only [ev] at hd
  split at hd
  case h_2 => exact hd.elim
  rename_i vs hvs
  obtain ⟨v, h1, ⟨hk⟩⟩ := hd
  have hargs := opds_rel C.rfr (fun h ob v e e' => C.sim.name (C.view h ob e) e') hys hvs
  rw [← hargs] at h1
  exact C.quiet hnd (hrun v (h1 W)) hk (SV.of_rel E v) (SV.of_ment M v)

theorem bool_or {a b : Bool} (h : (a || b) = true) : a = true ∨ b = true := by cases a <;> simp_all

/-- **Every operation of the intermediate form.** -/
theorem op_sound (C : Ctx w0 G0 Gr G M E H Hv hid fr a W) (T : Tab P) {io : IOp} (hc : compOp P o.op = some io) (hd : (ev T.get fr Hv hid io).den P hid Gr G K) : Goal P o a W rd nn Q w0 G0 M E H hid K := by
  cases hop : o.op with
  | move x =>
    rw [hop] at hc; simp only [compOp, Option.map_eq_some_iff] at hc
    obtain ⟨y, hy, rfl⟩ := hc
    exact op_mv C hy (.inl hop) hd
  | assign x =>
    rw [hop] at hc; simp only [compOp, Option.map_eq_some_iff] at hc
    obtain ⟨y, hy, rfl⟩ := hc
    exact op_mv C hy (.inr hop) hd
  | pick c x z =>
    rw [hop] at hc; simp only [compOp] at hc
    split at hc
    · cases hc; exact op_pick C ‹_› ‹_› ‹_› hop hd
    · cases hc
  | binOp op t x z t' =>
    rw [hop] at hc; simp only [compOp] at hc
    split at hc
    · rename_i x' y' hx hy
      cases hpb : plainBin P op t with
      | true => rw [hpb] at hc; cases hc; exact op_bin C ‹_› ‹_› hop hd
      | false =>
        rw [hpb] at hc; cases hc
        refine op_pur C (p := .bin op t) (xs := [x, z]) (by simp [compOpds, hx, hy]) (by simp [hop]) (fun v h => ?_) hd
        simp only [POp.sem, List.map_cons, List.map_nil] at h
        simp only [execOp, hop]
        exact run_value (run_guard h)
    · cases hc
  | unOp op t x =>
    rw [hop] at hc; simp only [compOp] at hc
    split at hc
    · rename_i x' hx
      cases hpu : plainUn op with
      | true => rw [hpu] at hc; cases hc; exact op_un C hx hop hd
      | false =>
        rw [hpu] at hc; cases hc
        refine op_pur C (p := .un op) (xs := [x]) (by simp [compOpds, hx]) (by simp [hop]) (fun v h => ?_) hd
        simp only [POp.sem, List.map_cons, List.map_nil] at h
        simp only [execOp, hop]
        exact run_value h
    · cases hc
  | convert s t x =>
    rw [hop] at hc; simp only [compOp] at hc
    split at hc
    · cases hc; exact op_conv C ‹_› ‹_› ‹_› hop hd
    · rename_i x' hx _ _
      cases hc
      refine op_pur C (p := .conv s t) (xs := [x]) (by simp [compOpds, hx]) (by simp [hop]) (fun v h => ?_) hd
      simp only [POp.sem, List.map_cons, List.map_nil] at h
      simp only [execOp, hop]
      exact run_value h
    · cases hc
  | index t x i =>
    rw [hop] at hc; simp only [compOp] at hc
    split at hc
    · rename_i x' i' hx hi
      cases hc
      refine op_pur C (p := .idx t) (xs := [x, i]) (by simp [compOpds, hx, hi]) (by simp [hop]) (fun v h => ?_) hd
      simp only [POp.sem, List.map_cons, List.map_nil] at h
      simp only [execOp, hop]
      exact run_value h
    · cases hc
  | makeInterface t x =>
    rw [hop] at hc; simp only [compOp] at hc
    split at hc
    · rename_i x' hx
      cases hc
      refine op_pur C (p := .mki t) (xs := [x]) (by simp [compOpds, hx]) (by simp [hop]) (fun v h => ?_) hd
      simp only [POp.sem, List.map_cons, List.map_nil] at h
      simp only [execOp, hop]
      exact run_value h
    · cases hc
  | typeAssert x t a' ok =>
    rw [hop] at hc; simp only [compOp] at hc
    split at hc
    · rename_i x' hx
      cases hc
      refine op_pur C (p := .tas t a' ok) (xs := [x]) (by simp [compOpds, hx]) (by simp [hop]) (fun v h => ?_) hd
      simp only [POp.sem, List.map_cons, List.map_nil] at h
      simp only [execOp, hop]
      exact run_value h
    · cases hc
  | box t x =>
    rw [hop] at hc; simp only [compOp, Option.map_eq_some_iff] at hc
    obtain ⟨y, hy, rfl⟩ := hc
    exact op_box C hy hop hd
  | alloc t =>
    rw [hop] at hc; simp only [compOp, Option.map_eq_some_iff] at hc
    obtain ⟨y, hy, rfl⟩ := hc
    exact op_alloc C hy hop hd
  | load t x =>
    rw [hop] at hc; simp only [compOp] at hc
    split at hc
    · rename_i x' n g _ _ _
      cases hb : (g || Nat.beq n 1) with
      | false => rw [hb] at hc; cases hc
      | true =>
        rw [hb] at hc; cases hc
        exact op_load C ‹_› ‹_› ‹_› ((bool_or hb).imp id Nat.eq_of_beq_eq_true) hop hd
    · cases hc
  | store t x z =>
    rw [hop] at hc; simp only [compOp] at hc
    split at hc
    · cases hc; exact op_store C ‹_› ‹_› ‹_› hop hd
    · cases hc
  | fieldAddr s x i =>
    rw [hop] at hc; simp only [compOp] at hc
    split at hc
    · split at hc
      · split at hc
        · rename_i n _
          cases hb : Nat.ble 1 n with
          | false => rw [hb] at hc; cases hc
          | true => rw [hb] at hc; cases hc; exact op_faddr C ‹_› ‹_› ‹_› ‹_› (Nat.le_of_ble_eq_true hb) hop hd
        · cases hc
      · cases hc
    · cases hc
  | indexAddr t x i =>
    rw [hop] at hc; simp only [compOp] at hc
    split at hc
    · split at hc
      · rename_i e he
        simp only [Option.map_eq_some_iff] at hc
        obtain ⟨k, hk, rfl⟩ := hc
        have he' : P.underlying t = some (.slice e) := by
          unfold elemT at he
          split at he
          · cases he; assumption
          · cases he
        exact op_iaddr C ‹_› ‹_› he' hk hop hd
      · split at hc
        · rename_i n e he
          have he' : P.underlying t = some (.array n e) := by
            unfold arrT at he
            split at he
            · cases he; assumption
            · cases he
          split at hc
          · rename_i k hk
            cases hb : Nat.ble 1 k with
            | false => rw [hb] at hc; cases hc
            | true => rw [hb] at hc; cases hc; exact op_aaddr C ‹_› ‹_› he' hk (Nat.le_of_ble_eq_true hb) hop hd
          · cases hc
        · cases hc
    · cases hc
  | slice t x lo hi mx =>
    rw [hop] at hc; simp only [compOp] at hc
    split at hc
    · split at hc
      · rename_i e he
        have he' : P.underlying t = some (.slice e) := by
          unfold elemT at he
          split at he
          · cases he; assumption
          · cases he
        split at hc
        · rename_i hi' mx' _ _ _ _ _ _ k hk
          cases hb : topOk hi' mx' with
          | false => rw [hb] at hc; cases hc
          | true => rw [hb] at hc; cases hc; exact op_slc C ‹_› ‹_› ‹_› ‹_› he' hk hb hop hd
        · cases hc
      · rename_i x' lo' hi' mx' hx hlo hhi hmx _ _
        have opt : ∀ {z : Option Operand} {z' : Option Opd}, compOpt z = some z' → (z = none ∧ z' = none) ∨ ∃ y y', z = some y ∧ z' = some y' ∧ compOpd y = some y' := fun {z z'} h => by
          cases z with
          | none => cases h; exact .inl ⟨rfl, rfl⟩
          | some y =>
            simp only [compOpt, Option.map_eq_some_iff] at h
            obtain ⟨y', h1, rfl⟩ := h
            exact .inr ⟨y, y', rfl, rfl, h1⟩
        rcases opt hmx with ⟨rfl, rfl⟩ | ⟨_, _, rfl, rfl, _⟩
        · rcases opt hlo with ⟨rfl, rfl⟩ | ⟨l, l', rfl, rfl, hl⟩ <;> rcases opt hhi with ⟨rfl, rfl⟩ | ⟨h, h', rfl, rfl, hh⟩
          · cases hc
            refine op_pur C (p := .slcS t false false) (xs := [x]) (by simp [compOpds, hx]) (by simp [hop]) (fun v h => ?_) hd
            simp only [POp.sem, List.map_cons, List.map_nil] at h
            simp only [execOp, hop, Option.map_none]
            exact run_value h
          · cases hc
            refine op_pur C (p := .slcS t false true) (xs := [x, h]) (by simp [compOpds, hx, hh]) (by simp [hop]) (fun v h => ?_) hd
            simp only [POp.sem, List.map_cons, List.map_nil] at h
            simp only [execOp, hop, Option.map_none, Option.map_some]
            exact run_value h
          · cases hc
            refine op_pur C (p := .slcS t true false) (xs := [x, l]) (by simp [compOpds, hx, hl]) (by simp [hop]) (fun v h => ?_) hd
            simp only [POp.sem, List.map_cons, List.map_nil] at h
            simp only [execOp, hop, Option.map_none, Option.map_some]
            exact run_value h
          · cases hc
            refine op_pur C (p := .slcS t true true) (xs := [x, l, h]) (by simp [compOpds, hx, hl, hh]) (by simp [hop]) (fun v h => ?_) hd
            simp only [POp.sem, List.map_cons, List.map_nil] at h
            simp only [execOp, hop, Option.map_none, Option.map_some]
            exact run_value h
        · cases hc
    · cases hc
  | makeSlice t n c =>
    rw [hop] at hc; simp only [compOp] at hc
    split at hc
    · rename_i n' e _ he
      have he' : P.underlying t = some (.slice e) := by
        unfold elemT at he
        split at he
        · cases he; assumption
        · cases he
      split at hc
      · rename_i zs by' _ _
        cases hb : (sameOpd n c && Nat.ble 1 zs.length && Nat.ble 1 by') with
        | false => rw [hb] at hc; cases hc
        | true =>
          rw [hb] at hc; cases hc
          simp only [Bool.and_eq_true] at hb
          have := sameOpd_eq hb.1.1
          subst this
          exact op_mks C ‹_› he' ‹_› ‹_› (Nat.le_of_ble_eq_true hb.1.2) (Nat.le_of_ble_eq_true hb.2) hop hd
      · cases hc
    · cases hc
  | makeMap t rv =>
    rw [hop] at hc
    cases rv with
    | none => simp only [compOp, Option.some.injEq] at hc; subst hc; exact op_mkm C hop hd
    | some _ => simp [compOp] at hc
  | lookup t x k ok =>
    rw [hop] at hc; simp only [compOp] at hc
    split at hc
    · rename_i x' k' kt e _ _ he
      have he' : P.underlying t = some (.map kt e) := by
        unfold mapT at he
        split at he
        · cases he; assumption
        · cases he
      split at hc
      · cases hc; exact op_lkp C ‹_› ‹_› he' ‹_› hop hd
      · cases hc
    · cases hc
  | mapUpdate t m k x =>
    rw [hop] at hc; simp only [compOp] at hc
    split at hc
    · rename_i m' k' x' kt e _ _ _ he
      have he' : P.underlying t = some (.map kt e) := by
        unfold mapT at he
        split at he
        · cases he; assumption
        · cases he
      cases hc; exact op_mup C ‹_› ‹_› ‹_› he' hop hd
    · cases hc
  | makeFunc fn first caps =>
    rw [hop] at hc
    cases fn with
    | func f =>
      simp only [compOp] at hc
      split at hc
      · cases hc; exact op_mkf C ‹_› ‹_› hop hd
      · cases hc
    | _ => simp [compOp] at hc
  | field s x i =>
    rw [hop] at hc; simp only [compOp] at hc
    split at hc
    · split at hc
      · split at hc
        · rename_i n g _ _
          cases hb : (g || Nat.beq n 1) with
          | false => rw [hb] at hc; cases hc
          | true =>
            rw [hb] at hc; cases hc
            exact op_fld C ‹_› ‹_› ‹_› ‹_› ‹_› ((bool_or hb).imp id Nat.eq_of_beq_eq_true) hop hd
        · cases hc
      · cases hc
    · cases hc
  | build t parts =>
    rw [hop] at hc; simp only [compOp] at hc
    split at hc
    · cases hc; exact op_bld C ‹_› ‹_› ‹_› hop hd
    · cases hc
  | buildSlice t len parts =>
    rw [hop] at hc; simp only [compOp] at hc
    split at hc
    · rename_i e xs he _
      split at hc
      · rename_i zs _
        cases hb : (Nat.ble 1 zs.length && Nat.ble (len * zs.length) 16777216) with
        | false => rw [hb] at hc; cases hc
        | true =>
          rw [hb] at hc; cases hc
          rw [Bool.and_eq_true] at hb
          have he' : P.underlying t = some (.slice e) := by
            unfold elemT at he
            split at he
            · cases he; assumption
            · cases he
          exact op_bsl C he' ‹_› ‹_› (Nat.le_of_ble_eq_true hb.1) (Nat.le_of_ble_eq_true hb.2) hop hd
      · cases hc
    · cases hc
  | nilCheck x =>
    rw [hop] at hc; simp only [compOp, Option.map_eq_some_iff] at hc
    obtain ⟨y, hy, rfl⟩ := hc
    exact op_nilc C hy hop hd
  | extract x i =>
    rw [hop] at hc; simp only [compOp, Option.map_eq_some_iff] at hc
    obtain ⟨y, hy, rfl⟩ := hc
    exact op_ext C hy hop hd
  | call c =>
    rw [hop] at hc; simp only [compOp] at hc
    obtain ⟨cal, args, ats⟩ := c
    unfold compCall at hc
    simp only at hc
    split at hc
    · split at hc
      · cases hc; exact op_call C T ‹_› hop hd
      · cases hc
    · split at hc
      · cases hc; exact op_callv C ‹_› ‹_› hop hd
      · cases hc
    · split at hc
      · rename_i x t e1 e2
        have e1 : args = #[x] := Array.ext' e1
        have e2 : ats = #[t] := Array.ext' e2
        subst e1; subst e2
        split at hc
        · cases hc; exact op_len C ‹_› ‹_› hop hd
        · cases hc; exact op_lenS C ‹_› ‹_› hop hd
        · cases hc
      · cases hc
    · split at hc
      · rename_i x y t t' e1 e2
        have e1 : args = #[x, y] := Array.ext' e1
        have e2 : ats = #[t, t'] := Array.ext' e2
        subst e1; subst e2
        split at hc
        · cases hc; exact op_mm C (mx := true) ‹_› ‹_› hop hd
        · cases hc
      · cases hc
    · split at hc
      · rename_i x y t t' e1 e2
        have e1 : args = #[x, y] := Array.ext' e1
        have e2 : ats = #[t, t'] := Array.ext' e2
        subst e1; subst e2
        split at hc
        · cases hc; exact op_mm C (mx := false) ‹_› ‹_› hop hd
        · cases hc
      · cases hc
    · split at hc
      · rename_i s x t t' e1 e2
        have e1 : args = #[s, x] := Array.ext' e1
        have e2 : ats = #[t, t'] := Array.ext' e2
        subst e1; subst e2
        split at hc
        · rename_i s' x' e _ _ he
          split at hc
          · rename_i zs by' _ _
            cases hb : (Nat.beq t t' && Nat.ble 1 zs.length && Nat.ble 1 by') with
            | false => rw [hb] at hc; cases hc
            | true =>
              rw [hb] at hc; cases hc
              simp only [Bool.and_eq_true] at hb
              have := Nat.eq_of_beq_eq_true hb.1.1
              subst this
              have he' : P.underlying t = some (.slice e) := by
                unfold elemT at he
                split at he
                · cases he; assumption
                · cases he
              exact op_app C ‹_› ‹_› he' ‹_› ‹_› (Nat.le_of_ble_eq_true hb.1.2) (Nat.le_of_ble_eq_true hb.2) hop hd
          · cases hc
        · cases hc
      · cases hc
    · cases hc
  | _ => rw [hop] at hc; simp [compOp] at hc


theorem op_bslp (C : Ctx w0 G0 Gr G M E H Hv hid fr a W) (T : Tab P) {t : TypeId} {k len : Nat} {zs : List Value} {xs : List (Nat × Opd)} (hc : compOp P o.op = some (.bsl t k len zs xs)) (hd : (ev T.get fr Hv hid (.bslp t k len zs xs)).den P hid Gr G K) : Goal P o a W rd nn Q w0 G0 M E H hid K := by
  simp only [ev] at hd
  split at hd
  case h_2 => exact hd.elim
  rename_i cs hlay
  split at hd
  case h_2 => exact hd.elim
  rename_i vs hvs
  cases h1 : allOne cs with
  | false => rw [h1] at hd; exact hd.elim
  | true =>
    rw [h1] at hd
    have hb : (ev T.get fr Hv hid (.bsl t k len zs xs)).den P hid Gr G (fun sv hu G' => sv = .c (.row hid len) ∧ hu = [(hid, some (.row none len vs t k))] ∧ G' = G) := by
      simp only [ev, hlay, hvs, h1, cond_true]
      exact ⟨rfl, rfl, rfl⟩
    refine Oper.wpIn_mono ?_ (op_sound C T hc hb)
    rintro a' W' ⟨v, rfl, sv, hu, G', E', ⟨rfl, rfl, rfl⟩, hr, hm, hag, hsim, hmH⟩
    refine ⟨v, rfl, ?_⟩
    obtain ⟨hv, a0, c0, hE⟩ := hr
    have hrow : updH H [(hid, some (.row none len vs t k))] hid = some (.row none len vs t k) := upd_same _ _ _
    obtain ⟨hown, hone, hmine⟩ := hsim.own hid _ hrow
    obtain ⟨b, hb⟩ : ∃ b, ∀ c, blkOf (E' hid) = some c → c = b := by
      cases hbl : blkOf (E' hid) with
      | none => exact ⟨0, fun c e => by cases e⟩
      | some b => exact ⟨b, fun c e => by cases e; rfl⟩
    obtain ⟨G2, g1, g2, g3⟩ := hsim.publish (ob' := .row (some (E' hid)) len vs t k) hrow rfl hb ⟨hown, hone, hmine⟩ rfl
    have hpub : PubRow G2 a0 len c0 vs := by
      rcases hown.2 with ⟨e', hn⟩ | ⟨g, cap, cur, e', _, hw, hnc, _, hsz, htake⟩
      · have hv0 : vs = [] := List.eq_nil_of_length_eq_zero (by rw [hown.1, hn, Nat.zero_mul])
        exact ⟨by omega, fun h => absurd hn h, fun j v hj => by rw [hv0] at hj; simp at hj⟩
      · rw [hE] at e'
        injection e' with e1 e2 e3
        subst e1 e3
        refine ⟨hnc, fun _ => rfl, fun j v hj => ?_⟩
        have := g2 g (by rw [hE]; rfl)
        rw [hw] at this
        simp only [rd1, ab_some, ao_some, this, Nat.zero_add]
        rw [← htake, List.getElem?_take] at hj
        split at hj
        · simpa using hj
        · cases hj
    have hlen : E' hid = .slice a0 len c0 := hE
    have hsim2 : Sim w0 G0 E' H G2 W' := g3.drop (fun i ob e => by
      have hne : i ≠ hid := fun e' => C.fresh (e' ▸ (C.mH i ob e).1)
      rw [upd_other _ _ hne]
      simp only [updH, upd_other _ _ hne]; exact e)
    obtain ⟨sv', k1, k2, k3⟩ := fork_elim (hd.k (.slice a0 len c0) G2 g1 ⟨a0, c0, rfl, hpub⟩).out (SV.of_rel E' _) (SV.of_ment M _)
    rw [hv, hlen]
    exact ⟨sv', [], G2, E', k1, k2, SV.ment_mono (fun _ h => .inl h) k3, hag, hsim2, fun h ob e => ⟨.inl (C.mH h ob e).1, OB.ment_mono (fun _ h => .inl h) (C.mH h ob e).2⟩⟩

theorem op_soundB (C : Ctx w0 G0 Gr G M E H Hv hid fr a W) (T : Tab P) {io : IOp} (hc : CompB P o.op io) (hd : (ev T.get fr Hv hid io).den P hid Gr G K) : Goal P o a W rd nn Q w0 G0 M E H hid K := by
  rcases hc with hc | ⟨io', hc, rfl⟩
  · exact op_sound C T hc hd
  · cases io' with
    | bsl t k len zs xs => exact op_bslp C T hc hd
    | _ => exact op_sound C T hc hd

end
end Go.Pal
