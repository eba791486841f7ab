/- Each operation, on symbolic values: those that look at memory, make it or write it; calls. -/
import Derived.Test.YtcmhpndhloplpaaPalE
namespace Go.Pal
open Go.RowKit

theorem ownsRow_cells {W : World} {base : Nat} {t : TypeId} {k n c b : Nat} {v : Value} {vs : List Value} (h : W.ownsRow base t k v n vs) (e : v = .slice (some ⟨b, 0, none⟩) n c) :
    ∃ cap cur, c = cap ∧ W.heap[b]? = some (.cells cur t (0, 0)) ∧ base ≤ b ∧ n ≤ cap ∧ cap ≤ maxLen ∧ cur.size = cap * k ∧ cur.toList.take vs.length = vs := by
  rcases h.2 with ⟨e', _⟩ | ⟨g, cap, cur, e', hb, hg, r⟩
  · rw [e] at e'; cases e'
  · rw [e] at e'; cases e'
    exact ⟨c, cur, rfl, hg, hb, r.1, r.2.1, r.2.2.1, by rw [h.1]; exact r.2.2.2⟩

theorem splice_take {vs cur us : List Value} {off n : Nat} (h : cur.take vs.length = vs) (hn : us.length = n) (hf : off + n ≤ vs.length) :
    (cur.take off ++ us ++ cur.drop (off + n)).take (vs.take off ++ us ++ vs.drop (off + n)).length = vs.take off ++ us ++ vs.drop (off + n) := by
  obtain ⟨rest, rfl⟩ : ∃ rest, cur = vs ++ rest := ⟨cur.drop vs.length, by conv => lhs; rw [← List.take_append_drop vs.length cur, h]⟩
  have h1 : (vs ++ rest).take off = vs.take off := List.take_append_of_le_length (by omega)
  have h2 : (vs ++ rest).drop (off + n) = vs.drop (off + n) ++ rest := List.drop_append_of_le_length (by omega)
  rw [h1, h2, ← List.append_assoc]
  exact List.take_left

section
variable {P : Program} {o : Oper} {a : Act} {W : World} {rd : Option Nat} {nn : Nat} {Q : Exit → Act → World → Prop}
variable {w0 : Root} {G0 Gr G : Hp} {M : Nat → Prop} {E : Nat → Value} {H Hv : Nat → Option OB} {hid : Nat} {K : SV → List (Nat × Option OB) → Hp → Prop} {fr : Nat → SV} {tab : FuncId → Option PSpec}

theorem op_load (C : Ctx w0 G0 Gr G M E H Hv hid fr a W) {t : TypeId} {n : Nat} {g : Bool} {x : Operand} {x' : Opd} (hx : compOpd x = some x') (hn : szT P t = some n) (hg : aggT P t = some g) (hgn : g = true ∨ n = 1)
    (hop : o.op = .load t x) (hd : (ev tab fr Hv hid (.load n g x')).den P hid Gr G K) : Goal P o a W rd nn Q w0 G0 M E H hid K := by
  have rx := opd_rel C.rfr hx
  have run : ∀ b off (cs : List Value), a.eval x = .pointer (some ⟨b, off, none⟩) → cs.length = n → (∀ j v, cs[j]? = some v → W.cell? ⟨b, off + j, none⟩ = some v) → (execOp a.eval o).run P W = .ok (.value (mkV g cs)) W := fun b off cs e h1 h2 => by
    simp [execOp, hop, e, run_loadAt' hn hg hgn h1 h2]
  simp only [ev] at hd
  split at hd
  case h_5 => exact hd.elim
  case h_3 =>
    rename_i h off e
    rw [e] at rx
    obtain ⟨b, e1, e2⟩ := rx
    split at hd
    case h_2 => exact hd.elim
    rename_i p cs ty hH
    have hH' := C.view _ _ hH
    obtain ⟨b', vs, e3, hb', hw, hr, h1, hat⟩ := C.sim.own _ _ hH'
    rw [e1] at e3; cases e3
    obtain ⟨ss, hss, hl, ⟨hd⟩⟩ := hd
    have hr2 := relL_take n (relL_drop off hr)
    rw [hss] at hr2
    have hlen := relL_len hr2
    refine C.quiet (by simp [hop]) (run b off ((vs.drop off).take n) e2 (by omega) ?_) hd (mkV_rel hgn (by omega) hr2) (SV.mk_ment fun c hc => (C.mH _ _ hH').2 c (List.mem_of_mem_drop (List.mem_of_mem_take (hss ▸ hc))))
    intro j v hj
    have : vs[off + j]? = some v := by
      rw [List.getElem?_take] at hj
      split at hj
      · rwa [List.getElem?_drop] at hj
      · cases hj
    simp [World.cell?, hw, this]
  · -- an own variable
    rename_i h off e
    rw [e] at rx
    obtain ⟨b, e1, e2⟩ := rx
    split at hd
    case h_2 => exact hd.elim
    rename_i p cs ty hH
    have hH' := C.view _ _ hH
    obtain ⟨b', vs, e3, hb', hw, hr, h1, hat⟩ := C.sim.own _ _ hH'
    rw [e1] at e3; cases e3
    cases hl : Nat.beq ((cs.drop off).take n).length n with
    | false => simp only [hl] at hd; exact hd.elim
    | true =>
      simp only [hl, cond_true] at hd
      have hl := Nat.eq_of_beq_eq_true hl
      have hr2 := relL_take n (relL_drop off hr)
      have hlen := relL_len hr2
      refine C.quiet (by simp [hop]) (run b off ((vs.drop off).take n) e2 (by omega) ?_) hd (mkV_rel hgn (by omega) hr2) (SV.mk_ment fun c hc => (C.mH _ _ hH').2 c (List.mem_of_mem_drop (List.mem_of_mem_take hc)))
      intro j v hj
      have : vs[off + j]? = some v := by
        rw [List.getElem?_take] at hj
        split at hj
        · rwa [List.getElem?_drop] at hj
        · cases hj
      simp [World.cell?, hw, this]
  · rename_i h off e
    rw [e] at rx
    obtain ⟨b, m, c, e1, e2⟩ := rx
    split at hd
    case h_2 => exact hd.elim
    rename_i p m' vs ty k hH
    have hH' := C.view _ _ hH
    obtain ⟨hown, h1, hmine⟩ := C.sim.own _ _ hH'
    obtain ⟨cs, hcs, hl, ⟨hd⟩⟩ := hd
    have em : m = m' := by
      rcases hown.2 with ⟨e', _⟩ | ⟨g, cap, cur, e', _⟩ <;> rw [e1] at e' <;> cases e'; rfl
    subst em
    obtain ⟨cap, cur, _, hw, _, _, _, _, htake⟩ := ownsRow_cells hown e1
    refine C.quiet (by simp [hop]) (run b off cs e2 hl ?_) hd (mkV_rel hgn hl (relL_of E cs)) (SV.mk_ment fun c hc => by
      obtain ⟨v, _, rfl⟩ := List.mem_map.1 hc; exact S1.of_ment M v)
    intro j v hj
    rw [← hcs, List.getElem?_take] at hj
    split at hj
    · rw [List.getElem?_drop, ← htake, List.getElem?_take] at hj
      split at hj
      · simp [World.cell?, hw]; simpa using hj
      · cases hj
    · cases hj
  · rename_i b off e
    rw [e] at rx
    obtain ⟨cs, hl, hc, ⟨hd⟩⟩ := hd
    refine C.quiet (by simp [hop]) (run b off cs rx hl ?_) hd (mkV_rel hgn hl (relL_of E cs)) (SV.mk_ment fun c hc => by
      obtain ⟨v, _, rfl⟩ := List.mem_map.1 hc; exact S1.of_ment M v)
    exact fun j v hj => rd1_cell C.sim.sub (rd1_grow C.gr (hc j v hj))

theorem op_box (C : Ctx w0 G0 Gr G M E H Hv hid fr a W) {t : TypeId} {x : Operand} {x' : Opd} (hx : compOpd x = some x') (hop : o.op = .box t x)
    (hd : (ev tab fr Hv hid (.box t x')).den P hid Gr G K) : Goal P o a W rd nn Q w0 G0 M E H hid K := by
  have rx := opd_rel C.rfr hx
  simp only [ev] at hd
  cases h1 : allOne (x'.ev fr).cells with
  | false => rw [h1] at hd; exact hd.elim
  | true =>
    rw [h1] at hd
    have hr := SV.cells_rel rx h1
    refine wp_of_run (W' := W.alloc (.cells (a.eval x).cells t)) (v := .pointer (some ⟨W.heap.size, 0, none⟩)) (by simp [hop]) (by simp [execOp, hop, Instr.box, newVar, newRow]) ?_
    refine OpPost.new C.sim C.mH C.fresh ((Below.refl _ _).alloc (Nat.le_refl _) _) hd (u := .pointer (some ⟨W.heap.size, 0, none⟩)) ?_ ?_ rfl ?_ ?_ (.inr rfl)
    · refine ⟨W.heap.size, (a.eval x).cells.toList, by rw [upd_same], .inl C.sim.below.size, ?_, relL_agree (Agree.upd E _ C.fresh) hr (SV.cells_ment (opd_ment C.mfr x')), allOne_rel hr h1, trivial⟩
      rw [heap_alloc_new]
    · exact SV.cells_ment (opd_ment C.mfr x')
    · intro b hb; simp [blkOf] at hb; omega
    · exact ⟨W.heap.size, by rw [upd_same], rfl⟩

theorem op_alloc (C : Ctx w0 G0 Gr G M E H Hv hid fr a W) {t : TypeId} {zs : List Value} (hz : zeroT P t = some zs) (hop : o.op = .alloc t)
    (hd : (ev tab fr Hv hid (.alloc t zs)).den P hid Gr G K) : Goal P o a W rd nn Q w0 G0 M E H hid K := by
  obtain ⟨z, i, _, _, hzs, _, h1, hrun⟩ := run_zero' (W := W) hz
  refine wp_of_run (W' := W.alloc (.cells z.cells t)) (v := .pointer (some ⟨W.heap.size, 0, none⟩)) (by simp [hop]) (by simp [execOp, hop, Instr.alloc, hrun, newVar, newRow]) ?_
  refine OpPost.new C.sim C.mH C.fresh ((Below.refl _ _).alloc (Nat.le_refl _) _) hd (u := .pointer (some ⟨W.heap.size, 0, none⟩)) ?_ ?_ rfl ?_ ?_ (.inr rfl)
  · refine ⟨W.heap.size, zs, by rw [upd_same], .inl C.sim.below.size, ?_, relL_vals _ _, h1, trivial⟩
    rw [heap_alloc_new, ← hzs]
  · intro c hc; obtain ⟨v, _, rfl⟩ := List.mem_map.1 hc; trivial
  · intro b hb; simp [blkOf] at hb; omega
  · exact ⟨W.heap.size, by rw [upd_same], rfl⟩

/-- A store into an own block. -/
theorem OpPost.set (C : Ctx w0 G0 Gr G M E H Hv hid fr a W) {i b : Nat} {ob ob' : OB} {cs : Array Value} (hi : H i = some ob) (hp : ob.pub = none) (hb : blkOf (E i) = some b) (hk : K (.c .any) [(i, some ob')] G)
    (hok : ob'.ok w0 E (W.setRow b cs) i) (hp' : ob'.pub = none) (hm : ob'.ment M) : OpPost w0 G0 M E H hid K undef (W.setRow b cs) := by
  refine ⟨.c .any, _, G, E, hk, trivial, trivial, Agree.refl _ _, C.sim.set (W' := W.setRow b cs) hi hp hb ⟨rfl, rfl, rfl, by simp⟩ (fun k _ hk => setRow_other W b k cs hk) hok hp', ?_⟩
  intro h ob2 e
  simp only [updH] at e
  by_cases hhi : h = i
  · subst hhi; rw [upd_same] at e; cases e; exact ⟨.inl (C.mH _ _ hi).1, OB.ment_mono (fun _ h => .inl h) hm⟩
  · rw [upd_other _ _ hhi] at e; exact ⟨.inl (C.mH h ob2 e).1, OB.ment_mono (fun _ h => .inl h) (C.mH h ob2 e).2⟩

theorem op_store (C : Ctx w0 G0 Gr G M E H Hv hid fr a W) {t : TypeId} {n : Nat} {x z : Operand} {x' z' : Opd} (hx : compOpd x = some x') (hz : compOpd z = some z') (hn : szT P t = some n)
    (hop : o.op = .store t x z) (hd : (ev tab fr Hv hid (.store n x' z')).den P hid Gr G K) : Goal P o a W rd nn Q w0 G0 M E H hid K := by
  have rx := opd_rel C.rfr hx
  have rz := opd_rel C.rfr hz
  have mz := opd_ment C.mfr z'
  simp only [ev] at hd
  split at hd
  case h_4 => exact hd.elim
  case h_2 =>
    rename_i h off e
    rw [e] at rx
    obtain ⟨b, e1, e2⟩ := rx
    split at hd
    case h_2 => exact hd.elim
    rename_i s cs ty hH
    have hH' := C.view _ _ hH
    obtain ⟨b', vs, e3, hb', hw, hr, h1, hat⟩ := C.sim.own _ _ hH'
    rw [e1] at e3; cases e3
    cases hc : (s.own && allOne (z'.ev fr).cells && Nat.beq (z'.ev fr).cells.length n) with
    | false => simp only [hc] at hd; exact hd.elim
    | true =>
      simp only [hc, cond_true] at hd
      simp only [Bool.and_eq_true] at hc
      obtain ⟨⟨c0, c1⟩, c2⟩ := hc
      obtain ⟨c3, ⟨hd⟩⟩ := hd
      have c2 := Nat.eq_of_beq_eq_true c2
      have rc := SV.cells_rel rz c1
      have hl1 := relL_len rc
      have hl2 := relL_len hr
      have hone := allOne_rel rc c1
      have hrun := run_storeAt' (P := P) (W := W) hn (b := b) (off := off) (v := a.eval z) (by omega) hw (by simp; omega) hone
      refine wp_of_skip (by simp [hop]) (by simp [execOp, hop, e2, hrun]; rfl) ?_
      refine OpPost.set C hH' (Nm.val_own c0) (by rw [e1]; rfl) hd ?_ (Nm.val_own c0) ?_
      · refine ⟨b, vs.take off ++ (a.eval z).cells.toList ++ vs.drop (off + n), e1, hb', ?_, relL_append (relL_append (relL_take off hr) rc) (relL_drop (off + n) hr), ?_, hat⟩
        · rw [setRow_heap W b _ _ ty (0, 0) hw]; simp [List.append_assoc]
        · intro v hv
          rcases List.mem_append.1 hv with hv | hv
          · rcases List.mem_append.1 hv with hv | hv
            · exact h1 v (List.mem_of_mem_take hv)
            · exact hone v hv
          · exact h1 v (List.mem_of_mem_drop hv)
      · intro c hc
        rcases List.mem_append.1 hc with hc | hc
        · rcases List.mem_append.1 hc with hc | hc
          · exact (C.mH _ _ hH').2 c (List.mem_of_mem_take hc)
          · exact SV.cells_ment mz c hc
        · exact (C.mH _ _ hH').2 c (List.mem_of_mem_drop hc)
  · rename_i h off e
    rw [e] at rx
    obtain ⟨b, e1, e2⟩ := rx
    split at hd
    case h_2 => exact hd.elim
    rename_i s cs ty hH
    have hH' := C.view _ _ hH
    obtain ⟨b', vs, e3, hb', hw, hr, h1, hat⟩ := C.sim.own _ _ hH'
    rw [e1] at e3; cases e3
    cases hc : (s.own && allOne (z'.ev fr).cells && Nat.beq (z'.ev fr).cells.length n && Nat.ble (off + n) cs.length) with
    | false => simp only [hc] at hd; exact hd.elim
    | true =>
      simp only [hc, cond_true] at hd
      simp only [Bool.and_eq_true] at hc
      obtain ⟨⟨⟨c0, c1⟩, c2⟩, c3⟩ := hc
      have c2 := Nat.eq_of_beq_eq_true c2
      have c3 := Nat.le_of_ble_eq_true c3
      have rc := SV.cells_rel rz c1
      have hl1 := relL_len rc
      have hl2 := relL_len hr
      have hone := allOne_rel rc c1
      have hrun := run_storeAt' (P := P) (W := W) hn (b := b) (off := off) (v := a.eval z) (by omega) hw (by simp; omega) hone
      refine wp_of_skip (by simp [hop]) (by simp [execOp, hop, e2, hrun]; rfl) ?_
      refine OpPost.set C hH' (Nm.val_own c0) (by rw [e1]; rfl) hd ?_ (Nm.val_own c0) ?_
      · refine ⟨b, vs.take off ++ (a.eval z).cells.toList ++ vs.drop (off + n), e1, hb', ?_, relL_append (relL_append (relL_take off hr) rc) (relL_drop (off + n) hr), ?_, hat⟩
        · rw [setRow_heap W b _ _ ty (0, 0) hw]; simp [List.append_assoc]
        · intro v hv
          rcases List.mem_append.1 hv with hv | hv
          · rcases List.mem_append.1 hv with hv | hv
            · exact h1 v (List.mem_of_mem_take hv)
            · exact hone v hv
          · exact h1 v (List.mem_of_mem_drop hv)
      · intro c hc
        rcases List.mem_append.1 hc with hc | hc
        · rcases List.mem_append.1 hc with hc | hc
          · exact (C.mH _ _ hH').2 c (List.mem_of_mem_take hc)
          · exact SV.cells_ment mz c hc
        · exact (C.mH _ _ hH').2 c (List.mem_of_mem_drop hc)
  · rename_i h off e
    rw [e] at rx
    obtain ⟨b, m, c, e1, e2⟩ := rx
    split at hd
    case h_2 => exact hd.elim
    rename_i m' vs ty k hH
    have hH' := C.view _ _ hH
    obtain ⟨hown, h1, hmine⟩ := C.sim.own _ _ hH'
    split at hd
    case h_2 => exact hd.elim
    rename_i us hus
    cases hc : (allOne (z'.ev fr).cells && Nat.beq us.length n) with
    | false => simp only [hc] at hd; exact hd.elim
    | true =>
      simp only [hc, cond_true] at hd
      obtain ⟨hfit, ⟨hd⟩⟩ := hd
      simp only [Bool.and_eq_true] at hc
      obtain ⟨c1, c2⟩ := hc
      have c2 := Nat.eq_of_beq_eq_true c2
      have rc := SV.cells_rel rz c1
      have hone := allOne_rel rc c1
      have hzu := toVals_rel rc hus
      have em : m = m' := by
        rcases hown.2 with ⟨e', _⟩ | ⟨g, cap, cur, e', _⟩ <;> rw [e1] at e' <;> cases e'; rfl
      subst em
      obtain ⟨cap, cur, ec, hw, hbb, hnc, hcm, hcs, htake⟩ := ownsRow_cells hown e1
      have hlen : vs.length ≤ cur.size := by
        have := congrArg List.length htake
        simp at this; omega
      have hrun := run_storeAt' (P := P) (W := W) hn (b := b) (off := off) (v := a.eval z) (by rw [hzu]; exact c2) hw (by omega) hone
      refine wp_of_skip (by simp [hop]) (by simp [execOp, hop, e2, hrun]; rfl) ?_
      refine OpPost.set C hH' rfl (by rw [e1]; rfl) hd ?_ rfl trivial
      refine ⟨⟨?_, .inr ⟨b, c, _, e1, hbb, setRow_heap W b _ _ ty (0, 0) hw, by omega, by omega, ?_, ?_⟩⟩, ?_, hmine⟩
      · have := hown.1
        simp only [List.length_append, List.length_take, List.length_drop]; omega
      · have : (a.eval z).cells.toList.length = n := by rw [hzu]; exact c2
        have h2 : (a.eval z).cells.size = n := by simpa using this
        subst ec
        simp only [List.size_toArray, List.length_append, List.length_take, List.length_drop, Array.length_toList]; omega
      · have e6 := splice_take htake c2 hfit
        have e7 : (vs.take off ++ us ++ vs.drop (off + n)).length = m * k := by
          have := hown.1
          simp only [List.length_append, List.length_take, List.length_drop]; omega
        rw [e7] at e6
        rw [hzu]; simpa [List.append_assoc] using e6
      · intro v hv
        rcases List.mem_append.1 hv with hv | hv
        · rcases List.mem_append.1 hv with hv | hv
          · exact h1 v (List.mem_of_mem_take hv)
          · exact hone v (by rw [hzu]; exact hv)
        · exact h1 v (List.mem_of_mem_drop hv)

end
end Go.Pal
