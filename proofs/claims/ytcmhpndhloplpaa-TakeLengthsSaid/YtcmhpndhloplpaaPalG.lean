/- Each operation, on symbolic values: indexes, literals, append, calls; and all together. -/
import Derived.Test.YtcmhpndhloplpaaPalF
namespace Go.Pal
open Go.RowKit

/-- The parts over the zero cells, as the model lays them. -/
theorem foldl_splice : ∀ (us : List Value) (k off : Nat) (cs : Array Value), off + k + us.length ≤ cs.size →
    ((us.zipIdx k).foldl (fun cs p => cs.setIfInBounds (off + p.2) p.1) cs).toList = cs.toList.take (off + k) ++ us ++ cs.toList.drop (off + k + us.length)
  | [], k, off, cs, _ => by simp
  | u :: us, k, off, cs, h => by
    simp only [List.zipIdx_cons, List.foldl_cons]
    rw [foldl_splice us (k + 1) off _ (by simp at h ⊢; omega)]
    have e := list_seg_step cs.toList (off + k) u us (by simp at h ⊢; omega)
    simpa [Array.toList_setIfInBounds, Nat.add_assoc, Nat.add_comm 1] using e

theorem fill_lay {E : Nat → Value} {places : List (Nat × Nat)} {place : Nat → Option (Nat × Nat)} (hp : ∀ i p, places[i]? = some p → place i = some p) : ∀ {ps : List (Nat × SV)} {vs : List (Nat × Value)} {zs cs : List S1} {zv : Array Value},
    (∀ (i : Nat) (p : Nat × SV) (q : Nat × Value), ps[i]? = some p → vs[i]? = some q → p.1 = q.1 ∧ p.2.rel E q.2) → ps.length = vs.length → relL E zs zv.toList → lay places zs ps = some cs →
      ∃ cv, Instr.fill place zv vs = some cv ∧ relL E cs cv.toList
  | [], [], zs, cs, zv, _, _, hz, h => by cases h; exact ⟨zv, rfl, hz⟩
  | [], _ :: _, _, _, _, _, hl, _, _ => by simp at hl
  | _ :: _, [], _, _, _, _, hl, _, _ => by simp at hl
  | (i, sv) :: ps, (i', v) :: vs, zs, cs, zv, hr, hl, hz, h => by
    obtain ⟨e0, r0⟩ := hr 0 (i, sv) (i', v) rfl rfl
    simp only at e0 r0
    subst e0
    simp only [lay] at h
    split at h
    case h_2 => cases h
    rename_i off size hpl
    cases hc : (Nat.beq sv.cells.length size && Nat.ble (off + size) zs.length && allOne sv.cells) with
    | false => rw [hc] at h; cases h
    | true =>
      rw [hc] at h
      simp only [Bool.and_eq_true] at hc
      obtain ⟨⟨c1, c2⟩, c3⟩ := hc
      have c1 := Nat.eq_of_beq_eq_true c1
      have c2 := Nat.le_of_ble_eq_true c2
      have rc := SV.cells_rel r0 c3
      have l1 := relL_len rc
      have l2 := relL_len hz
      have hsz : v.cells.size = size := by have : v.cells.toList.length = size := by omega
                                           simpa using this
      have hzs : zv.toList.length = zv.size := by simp
      have hsp := foldl_splice v.cells.toList 0 off zv (by simp only [Array.length_toList] at l1 ⊢; omega)
      have key : ((v.cells.zipIdx).foldl (fun cs p => cs.setIfInBounds (off + p.2) p.1) zv).toList = zv.toList.take off ++ v.cells.toList ++ zv.toList.drop (off + size) := by
        rw [← Array.foldl_toList, Array.toList_zipIdx]
        rw [hsp]; simp only [Nat.add_zero, Array.length_toList, hsz]
      obtain ⟨cv, f1, f2⟩ := fill_lay (E := E) hp (ps := ps) (vs := vs) (zs := zs.take off ++ sv.cells ++ zs.drop (off + size)) (cs := cs) (zv := (v.cells.zipIdx).foldl (fun cs p => cs.setIfInBounds (off + p.2) p.1) zv)
        (fun j p q h1 h2 => hr (j + 1) p q (by simpa using h1) (by simpa using h2)) (by simpa using hl)
        (by rw [key]; exact relL_append (relL_append (relL_take off hz) rc) (relL_drop _ hz)) h
      refine ⟨cv, ?_, f2⟩
      simp only [Instr.fill, hp _ _ hpl]
      rw [if_neg]
      · exact f1
      · simp; omega

theorem parts_rel {fr : Nat → SV} {E : Nat → Value} {a : Act} (hfr : ∀ i, (fr i).rel E (a.tmps.getD i undef)) : ∀ {xs : List (Nat × Operand)} {ys : List (Nat × Opd)}, compParts xs = some ys →
    (∀ (i : Nat) (p : Nat × SV) (q : Nat × Value), (evParts fr ys)[i]? = some p → (xs.map fun x => (x.1, a.eval x.2))[i]? = some q → p.1 = q.1 ∧ p.2.rel E q.2) ∧ (evParts fr ys).length = (xs.map fun x => (x.1, a.eval x.2)).length
  | [], ys, h => by cases h; exact ⟨fun i p q h1 => by simp [evParts] at h1, rfl⟩
  | (i, x) :: xs, ys, h => by
    simp only [compParts] at h
    split at h
    case h_2 => cases h
    rename_i y ys' h1 h2
    cases h
    obtain ⟨ih1, ih2⟩ := parts_rel hfr h2
    refine ⟨fun j p q e1 e2 => ?_, by simp [evParts, ih2]⟩
    cases j with
    | zero => simp [evParts] at e1 e2; subst e1; subst e2; exact ⟨rfl, opd_rel hfr h1⟩
    | succ j => exact ih1 j p q (by simpa [evParts] using e1) (by simpa using e2)

theorem lay_ment {M : Nat → Prop} {places : List (Nat × Nat)} : ∀ {ps : List (Nat × SV)} {zs cs : List S1}, (∀ p ∈ ps, p.2.ment M) → (∀ c ∈ zs, c.ment M) → lay places zs ps = some cs → ∀ c ∈ cs, c.ment M
  | [], zs, cs, _, hz, h => by cases h; exact hz
  | (i, sv) :: ps, zs, cs, hp, hz, h => by
    simp only [lay] at h
    split at h
    case h_2 => cases h
    rename_i off size hpl
    cases hc : (Nat.beq sv.cells.length size && Nat.ble (off + size) zs.length && allOne sv.cells) with
    | false => rw [hc] at h; cases h
    | true =>
      rw [hc] at h
      refine lay_ment (fun p hm => hp p (by simp [hm])) (fun c hm => ?_) h
      rcases List.mem_append.1 hm with hm | hm
      · rcases List.mem_append.1 hm with hm | hm
        · exact hz c (List.mem_of_mem_take hm)
        · exact SV.cells_ment (hp (i, sv) (by simp)) c hm
      · exact hz c (List.mem_of_mem_drop hm)
theorem evParts_ment {fr : Nat → SV} {M : Nat → Prop} (mfr : ∀ i, (fr i).ment M) : ∀ (ys : List (Nat × Opd)), ∀ p ∈ evParts fr ys, p.2.ment M
  | [], _, h => by cases h
  | (i, y) :: ys, p, h => by
    rcases List.mem_cons.1 h with rfl | h
    · exact opd_ment mfr y
    · exact evParts_ment mfr ys p h

section
variable {P : Program} {o : Oper} {a : Act} {W : World} {rd : Option Nat} {nn : Nat} {Q : Exit → Act → World → Prop}
variable {w0 : Root} {G0 Gr G : Hp} {M : Nat → Prop} {E : Nat → Value} {H Hv : Nat → Option OB} {hid : Nat} {K : SV → List (Nat × Option OB) → Hp → Prop} {fr : Nat → SV} {tab : FuncId → Option PSpec}

theorem op_iaddr (C : Ctx w0 G0 Gr G M E H Hv hid fr a W) {t e : TypeId} {k : Nat} {x i : Operand} {x' i' : Opd} (hx : compOpd x = some x') (hi : compOpd i = some i') (ht : P.underlying t = some (.slice e)) (hk : szT P e = some k)
    (hop : o.op = .indexAddr t x i) (hd : (ev tab fr Hv hid (.iaddr k x' i')).den P hid Gr G K) : Goal P o a W rd nn Q w0 G0 M E H hid K := by
  have rx := opd_rel C.rfr hx
  have mx := opd_ment C.mfr x'
  have ri := opd_rel C.rfr hi
  have h2 := run_sizeOf' (W := W) hk
  simp only [ev] at hd
  split at hd
  case h_2 => exact hd.elim
  rename_i q j ei
  rw [ei] at ri
  have ri : a.eval i = .int q j := ri
  have run : ∀ b off n c, a.eval x = .slice (some ⟨b, off, none⟩) n c → 0 ≤ j → j < (n : Int) → (execOp a.eval o).run P W = .ok (.value (.pointer (some ⟨b, off + j.toNat * k, none⟩))) W := fun b off n c e1 h3 h4 => by
    simp [execOp, hop, e1, ri, Instr.indexAt, asIntOf, run_underlying ht, h2, h3, h4, Addr.add_lit]
  split at hd
  case h_3 => exact hd.elim
  · rename_i ad n c ex
    rw [ex] at rx
    have rx : a.eval x = .slice ad n c := rx
    obtain ⟨⟨h3, h4⟩, ⟨h5, ⟨hd⟩⟩⟩ := hd
    rw [h5] at rx
    exact C.quiet (by simp [hop]) (run _ _ n c rx h3 h4) hd rfl trivial
  · rename_i h n ex
    rw [ex] at rx mx
    split at hd
    case h_2 => exact hd.elim
    rename_i p m vs ty k' hH
    have hH' := C.view _ _ hH
    obtain ⟨hown, h1, hmine⟩ := C.sim.own _ _ hH'
    cases hc : Nat.beq k' k with
    | false => simp only [hc] at hd; exact hd.elim
    | true =>
      simp only [hc, cond_true] at hd
      obtain ⟨⟨h3, h4⟩, ⟨h5, ⟨hd⟩⟩⟩ := hd
      subst h5
      obtain ⟨rx, ad, c, e1⟩ := rx
      rcases hown.2 with ⟨e', hn0⟩ | ⟨g, cap, cur, e', _⟩
      · omega
      · rw [e'] at e1; cases e1
        rw [e'] at rx
        refine C.quiet (by simp [hop]) (run g 0 n c rx h3 h4) hd ⟨g, n, c, e', by simp⟩ mx

theorem op_fld (C : Ctx w0 G0 Gr G M E H Hv hid fr a W) {s : TypeId} {fs : Array Field} {i n : Nat} {f : Field} {g : Bool} {x : Operand} {x' : Opd} (hx : compOpd x = some x') (hs : P.underlying s = some (.struct fs)) (hf : fs[i]? = some f)
    (hn : szT P f.type = some n) (hg : aggT P f.type = some g) (hgn : g = true ∨ n = 1) (hop : o.op = .field s x i) (hd : (ev tab fr Hv hid (.fld f.offset n g x')).den P hid Gr G K) : Goal P o a W rd nn Q w0 G0 M E H hid K := by
  have rx := opd_rel C.rfr hx
  have mx := opd_ment C.mfr x'
  simp only [ev] at hd
  split at hd
  case h_2 => exact hd.elim
  rename_i cs ecs
  have hag : ∃ vs : List Value, a.eval x = .agg vs.toArray ∧ relL E cs vs ∧ (∀ c ∈ cs, c.ment M) := by
    generalize x'.ev fr = sv at *
    unfold SV.aggCells at ecs
    split at ecs
    · cases ecs; obtain ⟨vs, e, hr⟩ := rx; exact ⟨vs, e, hr, mx⟩
    · rename_i us
      cases ecs
      have rx : a.eval x = .agg us := rx
      exact ⟨us.toList, by simpa using rx, relL_vals E _, fun c hc => by obtain ⟨v, _, rfl⟩ := List.mem_map.1 hc; trivial⟩
    · cases ecs
  obtain ⟨vs, e1, hr, hm⟩ := hag
  cases hl : Nat.beq ((cs.drop f.offset).take n).length n with
  | false => simp only [hl] at hd; exact hd.elim
  | true =>
    simp only [hl, cond_true] at hd
    have hl := Nat.eq_of_beq_eq_true hl
    have hr2 := relL_take n (relL_drop f.offset hr)
    have hlen := relL_len hr2
    refine C.quiet (v := mkV g ((vs.drop f.offset).take n)) (by simp [hop]) ?_ hd (mkV_rel hgn (by omega) hr2) (SV.mk_ment fun c hc => hm c (List.mem_of_mem_drop (List.mem_of_mem_take hc)))
    have h1 := run_isAgg' (W := W) hg
    have h2 := run_sizeOf' (W := W) hn
    cases g with
    | true =>
      have : vs.toArray.extract f.offset (f.offset + n) = ((vs.drop f.offset).take n).toArray := by simp
      simp [execOp, hop, e1, Instr.field, run_underlying hs, hf, asAgg, part, h1, h2, mkV]
    | false =>
      have hn1 : n = 1 := by simpa using hgn
      subst hn1
      have h3 : ∃ v, vs[f.offset]? = some v := by
        cases h : vs[f.offset]? with
        | some v => exact ⟨v, rfl⟩
        | none => have := List.getElem?_eq_none_iff.1 h; simp only [List.length_take, List.length_drop] at hlen hl; omega
      obtain ⟨v, h3⟩ := h3
      have h4 : (vs.drop f.offset).take 1 = [v] := by
        have hlt := (List.getElem?_eq_some_iff.1 h3).1
        rw [List.drop_eq_getElem_cons hlt]
        simp [(List.getElem?_eq_some_iff.1 h3).2]
      simp [execOp, hop, e1, Instr.field, run_underlying hs, hf, asAgg, part, h1, h3, h4, mkV]

theorem run_mapM_places {fs : List Field} {ps : List (Nat × Nat)} (h : fs.mapM (fun f => (szT P f.type).map fun n => (f.offset, n)) = some ps) : (fs.mapM fun f => (do pure (f.offset, ← sizeOf f.type) : Sem (Nat × Nat))).run P W = .ok ps W := by
  induction fs generalizing ps with
  | nil => simp at h; subst h; simp
  | cons f fs ih =>
    simp only [List.mapM_cons, Option.bind_eq_bind, Option.bind_eq_some_iff, Option.pure_def, Option.some.injEq] at h
    obtain ⟨p, hp, ps', hps, rfl⟩ := h
    cases hn : szT P f.type with
    | none => simp [hn] at hp
    | some n =>
      simp [hn] at hp
      subst hp
      have ih' := ih hps
      simp only [bind_pure_comp] at ih'
      simp [List.mapM_cons, run_sizeOf' hn, ih', Result.andThen]

theorem op_bld (C : Ctx w0 G0 Gr G M E H Hv hid fr a W) {t : TypeId} {ps : List (Nat × Nat)} {zs : List Value} {parts : Array (Nat × Operand)} {xs : List (Nat × Opd)} (hp : placesT P t = some ps) (hz : zeroT P t = some zs) (hxs : compParts parts.toList = some xs)
    (hop : o.op = .build t parts) (hd : (ev tab fr Hv hid (.bld ps zs xs)).den P hid Gr G K) : Goal P o a W rd nn Q w0 G0 M E H hid K := by
  simp only [ev] at hd
  split at hd
  case h_2 => exact hd.elim
  rename_i cs hlay
  obtain ⟨z, i, _, _, hzs, _, h1, hrun⟩ := run_zero' (W := W) hz
  obtain ⟨pr, pl⟩ := parts_rel C.rfr hxs
  unfold placesT at hp
  split at hp
  case h_2 => cases hp
  rename_i fs hu
  obtain ⟨cv, f1, f2⟩ := fill_lay (E := E) (place := (ps.toArray[·]?)) (fun i p h => by simpa using h) pr pl (zv := z.cells) (by rw [hzs]; exact relL_vals E zs) hlay
  refine C.quiet (v := .agg cv) (by simp [hop]) ?_ hd ⟨cv.toList, by simp, f2⟩ (lay_ment (evParts_ment C.mfr xs) (fun c hc => by obtain ⟨v, _, rfl⟩ := List.mem_map.1 hc; trivial) hlay)
  have hm := run_mapM_places (W := W) hp
  have hm' : (fs.mapM fun f => (do pure (f.offset, ← sizeOf f.type) : Sem (Nat × Nat))).run P W = .ok ps.toArray W := by
    rw [Array.mapM_eq_mapM_toList]
    simp only [Functor.map, Sem.run_bind', hm]
    rfl
  have hf : (parts.map fun x => (x.1, a.eval x.2)).toList = parts.toList.map fun x => (x.1, a.eval x.2) := by simp
  simp only [bind_pure_comp] at hm'
  simp only [List.getElem?_toArray] at f1
  simp only [execOp, hop]
  simp [Instr.build, hrun, run_underlying hu, hm', Result.andThen, f1]


theorem lay_len {places : List (Nat × Nat)} : ∀ {ps : List (Nat × SV)} {zs cs : List S1}, lay places zs ps = some cs → cs.length = zs.length
  | [], zs, cs, h => by cases h; rfl
  | (i, sv) :: ps, zs, cs, h => by
    simp only [lay] at h
    split at h
    case h_2 => cases h
    rename_i off size hpl
    cases hc : (Nat.beq sv.cells.length size && Nat.ble (off + size) zs.length && allOne sv.cells) with
    | false => rw [hc] at h; cases h
    | true =>
      rw [hc] at h
      simp only [Bool.and_eq_true] at hc
      have c1 := Nat.eq_of_beq_eq_true hc.1.1
      have c2 := Nat.le_of_ble_eq_true hc.1.2
      rw [lay_len h]
      simp only [List.length_append, List.length_take, List.length_drop]; omega

theorem zeros_flat (z : Array Value) (len : Nat) (hz : 0 < z.size) : ((Array.range (len * z.size)).map (fun i => z[i % z.size]!)).toList = (List.replicate len z.toList).flatten := by
  induction len with
  | zero => simp
  | succ len ih =>
    rw [List.replicate_succ', List.flatten_append, ← ih, Nat.succ_mul]
    simp only [Array.toList_map, Array.toList_range, List.flatten_cons, List.flatten_nil, List.append_nil]
    rw [List.range_add, List.map_append, List.map_map]
    congr 1
    apply List.ext_getElem (by simp)
    intro i h1 h2
    simp at h1
    simp [Nat.mul_add_mod_self_right, Nat.add_comm, Nat.mod_eq_of_lt h1, h1]

theorem op_bsl (C : Ctx w0 G0 Gr G M E H Hv hid fr a W) {t e : TypeId} {len : Nat} {zs : List Value} {parts : Array (Nat × Operand)} {xs : List (Nat × Opd)} (ht : P.underlying t = some (.slice e)) (hz : zeroT P e = some zs) (hxs : compParts parts.toList = some xs)
    (hk : 1 ≤ zs.length) (hle : len * zs.length ≤ 16777216) (hop : o.op = .buildSlice t len parts) (hd : (ev tab fr Hv hid (.bsl e zs.length len (List.replicate len zs).flatten xs)).den P hid Gr G K) : Goal P o a W rd nn Q w0 G0 M E H hid K := by
  simp only [ev] at hd
  split at hd
  case h_2 => exact hd.elim
  rename_i cs hlay
  split at hd
  case h_2 => exact hd.elim
  rename_i vs hvs
  cases h1 : allOne cs with
  | false => rw [h1] at hd; exact hd.elim
  | true =>
    rw [h1] at hd
    obtain ⟨z, i, hi, hiz, hzs, hsz, hone, hrun⟩ := run_zero' (W := W) hz
    obtain ⟨pr, pl⟩ := parts_rel C.rfr hxs
    have hzz : z.cells.size = zs.length := by rw [← hzs]; simp
    have hflat := zeros_flat z.cells len (by omega)
    rw [hzs] at hflat
    obtain ⟨cv, f1, f2⟩ := fill_lay (E := E) (place := fun i => some (i * zs.length, zs.length)) (fun i p h => by
      rw [List.getElem?_map, Option.map_eq_some_iff] at h
      obtain ⟨j, hj, rfl⟩ := h
      have := (List.getElem?_eq_some_iff.1 hj).2
      simp at this; rw [this]) pr pl (zv := (Array.range (len * z.cells.size)).map (fun i => z.cells[i % z.cells.size]!)) (by rw [hflat]; exact relL_vals E _) hlay
    have hcv : cv.toList = vs := toVals_rel f2 hvs
    have hlen : vs.length = len * zs.length := by
      have e1 := lay_len hlay
      have e2 := relL_len f2
      rw [hcv] at e2
      simp [List.length_flatten] at e1
      omega
    have hn : len ≤ len * zs.length := Nat.le_mul_of_pos_right _ hk
    refine wp_of_run (W' := W.alloc (.cells cv e)) (v := .slice (some ⟨W.heap.size, 0, none⟩) len len) (by simp [hop]) ?_ ?_
    · have hpm : (parts.map fun x => (x.1, a.eval x.2)).toList = parts.toList.map fun x => (x.1, a.eval x.2) := by simp
      have hb : (Instr.buildSlice t len (parts.map fun (i, x) => (i, a.eval x))).run P W = .ok (.slice (some ⟨W.heap.size, 0, none⟩) len len) (W.alloc (.cells cv e)) := by
        rw [hzz] at f1
        have hsize : i.size = zs.length := hsz.symm
        by_cases h0 : len * zs.length = 0
        · have hl0 : len = 0 := by
            rcases Nat.mul_eq_zero.1 h0 with h | h
            · exact h
            · omega
          subst hl0
          simp only [Nat.zero_mul] at f1
          simp [Instr.buildSlice, run_underlying ht, sizeOf, typeInfo, hi, hsize, newRow]
          have f1' : Instr.fill (fun i => some (i * zs.length, zs.length)) #[] (parts.toList.map fun x => (x.1, a.eval x.2)) = some cv := by simpa [Array.range_zero'] using f1
          rw [show (Array.map (fun _ => default) (Array.range 0) : Array Value) = #[] from by simp [Array.range_zero'], f1']
          simp
        · have hgt : ¬ (len * zs.length > 2 ^ 24) := by omega
          simp [Instr.buildSlice, run_underlying ht, sizeOf, typeInfo, hi, hsize, hgt, h0, hrun, hzz]
          simp [f1, newRow]
      simp [execOp, hop, hb]
    · have hown : (W.alloc (.cells cv e)).ownsRow 0 e zs.length (.slice (some ⟨W.heap.size, 0, none⟩) len len) len vs := by
        refine ⟨hlen, .inr ⟨W.heap.size, len, cv, rfl, Nat.zero_le _, heap_alloc_new W _, Nat.le_refl _, by unfold maxLen; omega, ?_, ?_⟩⟩
        · have : cv.toList.length = vs.length := by rw [hcv]
          simpa [hlen] using this
        · rw [← hlen, hcv]; simp
      refine OpPost.new C.sim C.mH C.fresh ((Below.refl _ _).alloc (Nat.le_refl _) _) hd (u := .slice (some ⟨W.heap.size, 0, none⟩) len len) ?_ trivial rfl ?_ ?_ (.inr rfl)
      · refine ⟨by rw [upd_same]; exact hown, ?_, ?_⟩
        · rw [← hcv]; exact allOne_rel f2 h1
        · intro b hb; rw [upd_same] at hb; simp only [blkOf, Option.some.injEq] at hb; subst hb; exact .inl C.sim.below.size
      · intro b hb; simp [blkOf] at hb; omega
      · exact ⟨by rw [upd_same], _, _, upd_same _ _ _⟩

theorem op_len (C : Ctx w0 G0 Gr G M E H Hv hid fr a W) {t e : TypeId} {x : Operand} {x' : Opd} (hx : compOpd x = some x') (ht : P.underlying t = some (.slice e))
    (hop : o.op = .call { callee := .builtin .len, args := #[x], argTypes := #[t] }) (hd : (ev tab fr Hv hid (.len x')).den P hid Gr G K) : Goal P o a W rd nn Q w0 G0 M E H hid K := by
  have rx := opd_rel C.rfr hx
  have run : ∀ ad n c, a.eval x = .slice ad n c → (execOp a.eval o).run P W = .ok (.value (.int .i64 n)) W := fun ad n c e => by
    simp [execOp, hop, resolve, invoke, builtin, e, Builtin.len_, run_underlying ht, goInt]
  simp only [ev] at hd
  split at hd
  case h_3 => exact hd.elim
  · rename_i ad n c ex
    rw [ex] at rx
    exact C.quiet (by simp [hop]) (run ad n c rx) hd rfl trivial
  · rename_i h n ex
    rw [ex] at rx
    obtain ⟨e1, ad, c, e2⟩ := rx
    exact C.quiet (by simp [hop]) (run ad n c (e1.trans e2)) hd rfl trivial
theorem op_lenS (C : Ctx w0 G0 Gr G M E H Hv hid fr a W) {t : TypeId} {x : Operand} {x' : Opd} (hx : compOpd x = some x') (ht : P.underlying t = some .string)
    (hop : o.op = .call { callee := .builtin .len, args := #[x], argTypes := #[t] }) (hd : (ev tab fr Hv hid (.lenS x')).den P hid Gr G K) : Goal P o a W rd nn Q w0 G0 M E H hid K := by
  have rx := opd_rel C.rfr hx
  simp only [ev] at hd
  split at hd
  case h_2 => exact hd.elim
  rename_i s ex
  rw [ex] at rx
  have rx : a.eval x = .string s := rx
  exact C.quiet (v := .int .i64 s.size) (by simp [hop]) (by simp [execOp, hop, resolve, invoke, builtin, rx, Builtin.len_, run_underlying ht, goInt]) hd rfl trivial

theorem run_append_none' (base : Nat) (t ty e : TypeId) (i : TypeInfo) (size : Nat) (ht : P.underlying t = some (.slice e)) (hi : P.info? e = some i) (v : Value) (n c : Nat) (xs : List Value) (hown : W.ownsRow base e size v n xs) :
    (Builtin.append_ #[t, t] ty #[v, .slice none 0 c]).run P W = .ok v W := by
  rcases hown.2 with ⟨rfl, rfl⟩ | ⟨g, cap, cur, rfl, hb, hg, hn, r⟩
  · simp [Builtin.append_, run_underlying ht, sizeOf, typeInfo, hi, Builtin.lenOf, Builtin.firstCells]
  · simp [Builtin.append_, run_underlying ht, sizeOf, typeInfo, hi, Builtin.lenOf, Builtin.firstCells, hn, storeCells]


/-- Where the elements of an append come from. -/
theorem srcR_sound (C : Ctx w0 G0 Gr G M E H Hv hid fr a W) {k : Nat} {x : Operand} {x' : Opd} (hx : compOpd x = some x') {cont : Nat → List Value → Res} (hd : (srcR Hv k (x'.ev fr) cont).den P hid Gr G K) :
    ∃ ad m c us, a.eval x = .slice ad m c ∧ us.length = m * k ∧ (ad = none → m = 0) ∧ (∀ b, ad = some b → ∀ j u, us[j]? = some u → W.cell? (b.add j) = some u) ∧ (∀ u ∈ us, u.oneCell' = true) ∧ (cont m us).den P hid Gr G K := by
  have rx := opd_rel C.rfr hx
  unfold srcR at hd
  split at hd
  case h_3 => exact hd.elim
  · rename_i h m ex
    rw [ex] at rx
    split at hd
    case h_2 => exact hd.elim
    rename_i p m' vs ty k' hH
    have hH' := C.view _ _ hH
    obtain ⟨hown, h1, hmine⟩ := C.sim.own _ _ hH'
    cases hc : Nat.beq k' k with
    | false => simp only [hc] at hd; exact hd.elim
    | true =>
      simp only [hc, cond_true] at hd
      obtain ⟨e0, ⟨hd⟩⟩ := hd
      subst e0
      have hk := Nat.eq_of_beq_eq_true hc
      subst hk
      obtain ⟨e1, ad, c, e2⟩ := rx
      refine ⟨ad, m', c, vs, e1.trans e2, hown.1, ?_, ?_, h1, hd⟩
      · intro e3
        rcases hown.2 with ⟨_, e5⟩ | ⟨g, cap, cur, e', _⟩
        · exact e5
        · rw [e'] at e2; cases e2; cases e3
      · intro b e3 j u hj
        rcases hown.2 with ⟨e4, _⟩ | ⟨g, cap, cur, e', _⟩
        · rw [e4] at e2; cases e2; cases e3
        · have e'' := e'
          rw [e2] at e'; cases e'; cases e3
          exact hown.cells (g := g) (by rw [e'']; rfl) j u hj
  · rename_i ad m c ex
    rw [ex] at rx
    obtain ⟨h1, ⟨us, hl, hc, ⟨h2, ⟨hd⟩⟩⟩⟩ := hd
    refine ⟨ad, m, c, us, rx, hl, fun e => ?_, fun b e j u hj => ?_, h2, hd⟩
    · by_cases hm : m = 0
      · exact hm
      · rw [e] at h1; exact absurd (h1 hm) (by simp)
    · have hm : m ≠ 0 := fun hm => by rw [hm, Nat.zero_mul] at hl; have := List.eq_nil_of_length_eq_zero hl; subst this; simp at hj
      have h1 := h1 hm
      rw [h1] at e; cases e
      rw [Addr.add_lit]
      exact rd1_cell C.sim.sub (rd1_grow C.gr (hc j u hj))


theorem run_app (base : Nat) (t ty e : TypeId) (i : TypeInfo) (z : Value) (size bytes : Nat) (ht : P.underlying t = some (.slice e)) (hi : P.info? e = some i) (hz : i.zero = some z)
    (hsize : i.size = size) (hby : i.bytes = bytes) (hzs : z.cells.size = size) (hsz : 0 < size) (v : Value) (n : Nat) (xs : List Value) (hown : W.ownsRow base e size v n xs)
    (b : Addr) (m c : Nat) (news : List Value) (hl : news.length = m * size) (hnews : ∀ j u, news[j]? = some u → W.cell? (b.add j) = some u) (h1 : ∀ u ∈ news, u.oneCell' = true)
    (h63 : n + m ≤ maxLen) (hbytes : (n + m) * bytes ≤ 140737488355328) (hbase : base ≤ W.heap.size) :
    ∃ v' W', (Builtin.append_ #[t, t] ty #[v, .slice (some b) m c]).run P W = .ok v' W' ∧ W'.ownsRow base e size v' (n + m) (xs ++ news) ∧ W.grownBy W' v.ownBlock ∧ (∀ g, v'.ownBlock = some g → W.heap.size ≤ g ∨ v.ownBlock = some g) := by
  obtain ⟨v', W', hr, ho, hg, hnil⟩ := run_append_own (P := P) W base t ty e i z size bytes ht hi hz hsize hby hzs hsz v n xs hown b m c news hl hnews h1 h63 hbytes hbase
  refine ⟨v', W', hr, ho, hg, ?_⟩
  have big : n + m ≤ 9223372036854775807 := by unfold maxLen at h63; omega
  subst hsize; subst hby
  rcases hown.2 with ⟨rfl, rfl⟩ | ⟨g, cap, cur, rfl, _, hgc, hnc, hcm, hcs, htake⟩
  · by_cases hm : m = 0
    · have := hnil.2 ⟨rfl, hm⟩
      rw [this]; intro g e; simp [Value.ownBlock] at e
    · have h2 := run_append_nil (P := P) W t ty e i z ht hi hz b m c news hl hnews (by omega) (by omega) (by simp only [Nat.zero_add] at hbytes; omega)
      rw [h2] at hr
      cases hr
      intro g e; simp [Value.ownBlock] at e; omega
  · by_cases hroom : n + m ≤ cap
    · have hfit : n * i.size + news.length ≤ cur.size := by rw [hl, hcs, ← Nat.add_mul]; exact Nat.mul_le_mul_right _ hroom
      have h2 := run_append_room (P := P) W t ty e i ht hi g n cap cur hgc b m c news hl hnews h1 hroom hfit
      rw [h2] at hr
      cases hr
      intro g e; exact .inr e
    · have h2 := run_append_grow (P := P) W t ty e i z ht hi hz ⟨g, 0, none⟩ n cap xs hown.1 (hown.cells (g := g) rfl) b m c news hl hnews (by omega) (by omega) (growslice_fits (by omega) hbytes)
      rw [h2] at hr
      cases hr
      intro g e; simp [Value.ownBlock] at e; omega

theorem blk_own {v : Value} (h : ∃ a n c, v = .slice a n c) : blkOf v = v.ownBlock := by
  obtain ⟨a, n, c, rfl⟩ := h
  cases a <;> rfl

theorem op_app (C : Ctx w0 G0 Gr G M E H Hv hid fr a W) {t e : TypeId} {zs : List Value} {by' : Nat} {s x : Operand} {s' x' : Opd} (hss : compOpd s = some s') (hx : compOpd x = some x') (ht : P.underlying t = some (.slice e)) (hz : zeroT P e = some zs)
    (hb : byT P e = some by') (hk : 1 ≤ zs.length) (hb1 : 1 ≤ by') (hop : o.op = .call { callee := .builtin .append, args := #[s, x], argTypes := #[t, t] }) (hd : (ev tab fr Hv hid (.app e zs.length by' s' x')).den P hid Gr G K) : Goal P o a W rd nn Q w0 G0 M E H hid K := by
  have rs := opd_rel C.rfr hss
  obtain ⟨z, i, hi, hiz, hzs, hsz, _, _⟩ := run_zero' (W := W) hz
  have hby : i.bytes = by' := by unfold byT at hb; rw [hi] at hb; simpa using hb
  have hzz : z.cells.size = zs.length := by rw [← hzs]; simp
  -- the run, whatever stands at the two places
  have main : ∀ (v : Value) (n : Nat) (vs : List Value), a.eval s = v → W.ownsRow 0 e zs.length v n vs → (∀ u ∈ vs, u.oneCell' = true) →
      ∀ ad m c us, a.eval x = .slice ad m c → us.length = m * zs.length → (ad = none → m = 0) → (∀ b, ad = some b → ∀ j u, us[j]? = some u → W.cell? (b.add j) = some u) → (∀ u ∈ us, u.oneCell' = true) → (n + m) * by' ≤ 140737488355328 →
      ∃ v' W', (execOp a.eval o).run P W = .ok (.value v') W' ∧ W'.ownsRow 0 e zs.length v' (n + m) (vs ++ us) ∧ W.grownBy W' v.ownBlock ∧ (∀ g, v'.ownBlock = some g → W.heap.size ≤ g ∨ v.ownBlock = some g) := by
    intro v n vs e1 hown h1 ad m c us e2 hl hn hc h2 hbytes
    have hle : n + m ≤ 140737488355328 := Nat.le_trans (Nat.le_mul_of_pos_right _ hb1) hbytes
    cases ad with
    | none =>
      have hm := hn rfl
      subst hm
      have : us = [] := List.eq_nil_of_length_eq_zero (by simpa using hl)
      subst this
      refine ⟨v, W, ?_, by simpa using hown, ⟨rfl, rfl, rfl, Nat.le_refl _, fun _ _ _ => rfl⟩, fun g e => .inr e⟩
      have hr := run_append_none' (P := P) (W := W) 0 t o.type e i zs.length ht hi v n c vs hown
      simp [execOp, hop, resolve, invoke, builtin, e1, e2, hr]
    | some b =>
      obtain ⟨v', W', hr, ho, hg, hn'⟩ := run_app (P := P) (W := W) 0 t o.type e i z zs.length by' ht hi hiz hsz.symm hby hzz (by omega) v n vs hown b m c us hl (hc b rfl) h2 (by unfold maxLen; omega) hbytes (Nat.zero_le _)
      exact ⟨v', W', by simp [execOp, hop, resolve, invoke, builtin, e1, e2, hr], ho, hg, hn'⟩
  have sl : ∀ {W' : World} {v' : Value} {n : Nat} {vs : List Value}, W'.ownsRow 0 e zs.length v' n vs → ∃ a c, v' = .slice a n c := fun {W' v' n vs} ho => by
    rcases ho.2 with ⟨rfl, rfl⟩ | ⟨g, cap, cur, rfl, _⟩
    · exact ⟨_, _, rfl⟩
    · exact ⟨_, _, rfl⟩
  have hnd : ∀ c, o.op ≠ .defer c := by simp [hop]
  simp only [ev] at hd
  split at hd
  case h_3 => exact hd.elim
  · rename_i h n es
    rw [es] at rs
    split at hd
    case h_2 => exact hd.elim
    rename_i n' vs ty k' hH
    have hH' := C.view _ _ hH
    obtain ⟨hown, h1, hmine⟩ := C.sim.own _ _ hH'
    cases hc : Nat.beq k' zs.length && Nat.beq ty e with
    | false => simp only [hc] at hd; exact hd.elim
    | true =>
      simp only [hc, cond_true] at hd
      rw [Bool.and_eq_true] at hc
      have hk' := Nat.eq_of_beq_eq_true hc.1
      have ht' := Nat.eq_of_beq_eq_true hc.2
      subst hk'; subst ht'
      obtain ⟨ad, m, c, us, e2, hl, hn, hcc, h2, ⟨e3, ⟨hbytes, ⟨hd⟩⟩⟩⟩ := srcR_sound C hx hd
      subst e3
      obtain ⟨v', W', hr, ho, hg, hnw⟩ := main (E h) n' vs rs.1 hown h1 ad m c us e2 hl hn hcc h2 hbytes
      refine wp_of_run hnd hr ?_
      obtain ⟨a', c', ev'⟩ := sl ho
      have hbl : blkOf v' = v'.ownBlock := blk_own ⟨_, _, _, ev'⟩
      obtain ⟨a0, c0, e0⟩ := sl hown
      have hbl0 : blkOf (E h) = (E h).ownBlock := blk_own ⟨_, _, _, e0⟩
      have hH1 : ∀ k ob, upd H h none k = some ob → H k = some ob ∧ k ≠ h := fun k ob e => by
        by_cases hkh : k = h
        · subst hkh; rw [upd_same] at e; cases e
        · rw [upd_other _ _ hkh] at e; exact ⟨e, hkh⟩
      have hs1 : Sim w0 G0 E (upd H h none) G W := C.sim.drop (fun k ob e => (hH1 k ob e).1)
      have hm1 : ∀ k ob, upd H h none k = some ob → M k ∧ ob.ment M := fun k ob e => C.mH k ob (hH1 k ob e).1
      have hone : ∀ u ∈ vs ++ us, u.oneCell' = true := fun u hu => (List.mem_append.1 hu).elim (h1 u) (h2 u)
      have key := hs1.new' (E h).ownBlock hg (fun r er => ⟨(OB.blk (C.sim.own h _ hH') (hbl0.trans er)).1, C.sim.priv h _ hH' rfl r (hbl0.trans er), fun k ob e eb => (hH1 k ob e).2 (C.sim.inj h _ k ob r hH' (hH1 k ob e).1 rfl (hbl0.trans er) eb).symm⟩)
        (i := hid) (v := v') (ob := .row none (n' + m) (vs ++ us) ty zs.length) C.fresh hm1 ⟨by rw [upd_same]; exact ho, hone, fun b hb => by
          rw [upd_same] at hb
          rcases hnw b (hbl ▸ hb) with h2 | h2
          · exact C.sim.below.mine_new h2
          · exact hmine b (hbl0.trans h2)⟩ rfl (fun b hb => hnw b (hbl ▸ hb))
      refine ⟨_, _, G, upd E hid v', hd, ⟨by rw [upd_same], a', c', by rw [upd_same]; exact ev'⟩, .inr rfl, Agree.upd E v' C.fresh, key, ?_⟩
      intro k ob e
      simp only [updH] at e
      by_cases hk : k = hid
      · subst hk; rw [upd_same] at e; cases e; exact ⟨.inr rfl, trivial⟩
      · rw [upd_other _ _ hk] at e; exact ⟨.inl (hm1 k ob e).1, OB.ment_mono (fun _ h => .inl h) (hm1 k ob e).2⟩
  · rename_i es
    rw [es] at rs
    have rs : a.eval s = .slice none 0 0 := rs
    obtain ⟨ad, m, c, us, e2, hl, hn, hcc, h2, ⟨hbytes, ⟨hd⟩⟩⟩ := srcR_sound C hx hd
    obtain ⟨v', W', hr, ho, hg, hnw⟩ := main (.slice none 0 0) 0 [] rs (World.ownsRow_nil W _ _ _) (fun u hu => by cases hu) ad m c us e2 hl hn hcc h2 (by simpa using hbytes)
    refine wp_of_run hnd hr ?_
    simp only [Nat.zero_add, List.nil_append] at ho
    obtain ⟨a', c', ev'⟩ := sl ho
    have hbl : blkOf v' = v'.ownBlock := blk_own ⟨_, _, _, ev'⟩
    refine OpPost.new C.sim C.mH C.fresh ⟨hg.os, hg.tape, hg.output, hg.size, fun k hk => hg.block k hk (by simp [Value.ownBlock])⟩ hd (u := v') ⟨by rw [upd_same]; exact ho, h2, fun b hb => by
      rw [upd_same] at hb
      rcases hnw b (hbl ▸ hb) with h | h
      · exact C.sim.below.mine_new h
      · simp [Value.ownBlock] at h⟩ trivial rfl (fun b hb => by
      rcases hnw b (hbl ▸ hb) with h | h
      · exact h
      · simp [Value.ownBlock] at h) ⟨by rw [upd_same], a', c', by rw [upd_same]; exact ev'⟩ (.inr rfl)

end
end Go.Pal
