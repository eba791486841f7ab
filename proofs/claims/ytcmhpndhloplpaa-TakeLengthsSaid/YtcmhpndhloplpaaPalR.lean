/- More operations: max and min, slices cut, rows made, elements of arrays, function values. -/
import Derived.Test.YtcmhpndhloplpaaPalG
import Derived.Laws.MakeOwn
import Derived.Laws.Slices
import Derived.Lib.MinMax
import Derived.MapKept
namespace Go.Pal
open Go.RowKit

section
variable {P : Program} {o : Oper} {a : Act} {W : World} {rd : Option Nat} {nn : Nat} {Q : Exit → Act → World → Prop}
variable {w0 : Root} {G0 Gr G : Hp} {M : Nat → Prop} {E : Nat → Value} {H Hv : Nat → Option OB} {hid : Nat} {K : SV → List (Nat × Option OB) → Hp → Prop} {fr : Nat → SV} {tab : FuncId → Option PSpec}

theorem SV.of_rel' (E : Nat → Value) (v : Value) : (SV.of v).rel E v := S1.of_rel E v
theorem SV.of_ment' (M : Nat → Prop) (v : Value) : (SV.of v).ment M := S1.of_ment M v
theorem SV.toVal_rel {H : Nat → Option OB} (hpub : ∀ h ob v, H h = some ob → ob.name = some v → E h = v) {sv : SV} {v w : Value} (hr : sv.rel E w) (hv : sv.toVal H = some v) : w = v := by
  cases sv with
  | c x => exact S1.toValH_rel hpub hr hv
  | agg cs =>
    simp only [SV.toVal] at hv
    split at hv
    · rename_i us hus
      cases hv
      obtain ⟨ws, e, hr⟩ := hr
      rw [e, toValsH_rel hpub hr hus]
    · cases hv

theorem op_mm (C : Ctx w0 G0 Gr G M E H Hv hid fr a W) {mx : Bool} {x y : Operand} {x' y' : Opd} {t t' : TypeId} (hx : compOpd x = some x') (hy : compOpd y = some y')
    (hop : o.op = .call { callee := .builtin (if mx then .max else .min), args := #[x, y], argTypes := #[t, t'] }) (hd : (ev tab fr Hv hid (.mm mx x' y')).den P hid Gr G K) : Goal P o a W rd nn Q w0 G0 M E H hid K := by
  have rx := opd_rel C.rfr hx
  have ry := opd_rel C.rfr hy
  simp only [ev] at hd
  split at hd
  case h_2 => exact hd.elim
  rename_i k m k' n e1 e2
  rw [e1] at rx; rw [e2] at ry
  have rx : a.eval x = .int k m := rx
  have ry : a.eval y = .int k' n := ry
  cases mx with
  | true => exact C.quiet (v := .int k (max m n)) (by simp [hop]) (by simp [execOp, hop, resolve, invoke, builtin, rx, ry, Lib.run_max_ints]) hd rfl trivial
  | false => exact C.quiet (v := .int k (min m n)) (by simp [hop]) (by simp [execOp, hop, resolve, invoke, builtin, rx, ry, Lib.run_min_ints]) hd rfl trivial

/-- A bound, as the model reads it. -/
theorem bnd_sound {x : Option Operand} {x' : Option Opd} {d : Nat} {cont : Int → Res} (C : Ctx w0 G0 Gr G M E H Hv hid fr a W) (hx : compOpt x = some x') (hd : (bndR fr x' d cont).den P hid Gr G K) :
    ∃ i, (cont i).den P hid Gr G K ∧ ((x = none ∧ i = (d : Int)) ∨ ∃ y k, x = some y ∧ a.eval y = .int k i) := by
  cases x with
  | none => cases hx; exact ⟨d, hd, .inl ⟨rfl, rfl⟩⟩
  | some y =>
    simp only [compOpt, Option.map_eq_some_iff] at hx
    obtain ⟨y', hy, rfl⟩ := hx
    have ry := opd_rel C.rfr hy
    simp only [bndR] at hd
    split at hd
    · rename_i k i e
      rw [e] at ry
      exact ⟨i, hd, .inr ⟨y, k, rfl, ry⟩⟩
    · exact hd.elim

theorem op_slc (C : Ctx w0 G0 Gr G M E H Hv hid fr a W) {t e : TypeId} {k : Nat} {x : Operand} {lo hi mx : Option Operand} {x' : Opd} {lo' hi' mx' : Option Opd} (hx : compOpd x = some x') (hlo : compOpt lo = some lo') (hhi : compOpt hi = some hi') (hmx : compOpt mx = some mx')
    (ht : P.underlying t = some (.slice e)) (hk : szT P e = some k) (htop : topOk hi' mx' = true) (hop : o.op = .slice t x lo hi mx) (hd : (ev tab fr Hv hid (.slc k x' lo' hi' mx')).den P hid Gr G K) : Goal P o a W rd nn Q w0 G0 M E H hid K := by
  have rx := opd_rel C.rfr hx
  simp only [ev] at hd
  split at hd
  case h_2 => exact hd.elim
  rename_i ad n c ex
  have rx : a.eval x = .slice ad n c := SV.toVal_rel (fun h ob v e e' => C.sim.name (C.view h ob e) e') rx ex
  obtain ⟨l, hd, hl⟩ := bnd_sound C hlo hd
  obtain ⟨h, hd, hh⟩ := bnd_sound C hhi hd
  obtain ⟨m, hd, hm⟩ := bnd_sound C hmx hd
  obtain ⟨⟨b1, b2, b3, b4⟩, ⟨hd⟩⟩ := hd
  have h2 := run_sizeOf' (W := W) hk
  refine C.quiet (by simp [hop]) (v := .slice (cutA ad l.toNat m.toNat k) (h.toNat - l.toNat) (m.toNat - l.toNat)) ?_ hd rfl trivial
  have bound : ∀ (y : Operand) (q : IntKind) (i : Int) (d : Nat) (code : BoundsCode), a.eval y = .int q i → 0 ≤ i → i ≤ (d : Int) → (Instr.sliceBound (a.eval y) d code).run P W = .ok i.toNat W := fun y q i d code e h0 h1 => by
    rw [e]; simp [Instr.sliceBound, asIntOf, h0, h1]
  have em : (m.toNat : Int) = m := Int.toNat_of_nonneg (by omega)
  have eh : (h.toNat : Int) = h := Int.toNat_of_nonneg (by omega)
  have key : (Instr.sliceBounds true n c (lo.map a.eval) (hi.map a.eval) (mx.map a.eval)).run P W = .ok (l.toNat, h.toNat, m.toNat) W := by
    unfold Instr.sliceBounds
    rcases hm with ⟨rfl, rfl⟩ | ⟨ym, km, rfl, eym⟩
    · rcases hh with ⟨rfl, rfl⟩ | ⟨yh, kh, rfl, eyh⟩
      · rcases hl with ⟨rfl, rfl⟩ | ⟨yl, kl, rfl, eyl⟩
        · simp
        · have e3 := bound yl kl l n .sliceB eyl b1 (by omega)
          simp [e3]
      · have e2 := bound yh kh h c .sliceAcap eyh (by omega) (by omega)
        rcases hl with ⟨rfl, rfl⟩ | ⟨yl, kl, rfl, eyl⟩
        · simp [e2]
        · have e3 := bound yl kl l h.toNat .sliceB eyl b1 (by omega)
          simp [e2, e3]
    · have e1 := bound ym km m c .slice3Acap eym (by omega) (by omega)
      rcases hh with ⟨rfl, rfl⟩ | ⟨yh, kh, rfl, eyh⟩
      · cases hhi
        simp only [compOpt, Option.map_eq_some_iff] at hmx
        obtain ⟨_, _, rfl⟩ := hmx
        simp [topOk] at htop
      · have e2 := bound yh kh h m.toNat .slice3B eyh (by omega) (by omega)
        rcases hl with ⟨rfl, rfl⟩ | ⟨yl, kl, rfl, eyl⟩
        · simp [e1, e2]
        · have e3 := bound yl kl l h.toNat .slice3C eyl b1 (by omega)
          simp [e1, e2, e3]
  simp [execOp, hop, Instr.sliceAt, run_underlying ht, Instr.slice, rx, key, h2, cutA]

theorem replicate_flatten_cells (zs : Array Value) (n : Nat) (hz : 1 ≤ zs.size) : (madeCells zs (n * zs.size)).toList = (List.replicate n zs.toList).flatten := by
  apply List.ext_getElem
  · simp [madeCells, List.length_flatten]
  · intro i h1 h2
    have hi : i < n * zs.size := by simpa [madeCells] using h1
    simp only [madeCells, Array.getElem_toList, Array.getElem_map, Array.getElem_range]
    have hm : i % zs.size < zs.size := Nat.mod_lt _ (by omega)
    rw [getElem!_pos zs (i % zs.size) hm]
    induction n generalizing i with
    | zero => omega
    | succ n ih =>
      by_cases hlt : i < zs.size
      · have : i % zs.size = i := Nat.mod_eq_of_lt hlt
        simp only [this, List.replicate_succ, List.flatten_cons]
        rw [List.getElem_append_left (by simpa using hlt)]
        simp
      · have hge : zs.size ≤ i := by omega
        have hi' : i - zs.size < n * zs.size := by rw [Nat.succ_mul] at hi; omega
        have e : i % zs.size = (i - zs.size) % zs.size := by
          conv => lhs; rw [show i = (i - zs.size) + zs.size by omega, Nat.add_mod_right]
        simp only [List.replicate_succ, List.flatten_cons]
        rw [List.getElem_append_right (by simpa using hge)]
        simp only [Array.length_toList]
        have := ih (i - zs.size) (by simpa [madeCells] using hi') (by simpa [List.length_flatten] using hi') hi' (Nat.mod_lt _ (by omega))
        rw [← this]
        congr 1

theorem op_mks (C : Ctx w0 G0 Gr G M E H Hv hid fr a W) {t e : TypeId} {zs : List Value} {by' : Nat} {x : Operand} {x' : Opd} (hx : compOpd x = some x') (ht : P.underlying t = some (.slice e)) (hz : zeroT P e = some zs) (hb : byT P e = some by') (hk : 1 ≤ zs.length) (hb1 : 1 ≤ by')
    (hop : o.op = .makeSlice t x x) (hd : (ev tab fr Hv hid (.mks e zs.length by' zs x')).den P hid Gr G K) : Goal P o a W rd nn Q w0 G0 M E H hid K := by
  have rx := opd_rel C.rfr hx
  obtain ⟨z, i, hi, hiz, hzs, hsz, h1, _⟩ := run_zero' (W := W) hz
  have hby : i.bytes = by' := by unfold byT at hb; rw [hi] at hb; simpa using hb
  have hzz : z.cells.size = zs.length := by rw [← hzs]; simp
  simp only [ev] at hd
  split at hd
  case h_2 => exact hd.elim
  rename_i q m ex
  rw [ex] at rx
  have rx : a.eval x = .int q m := rx
  obtain ⟨⟨h0, hbytes⟩, ⟨hd⟩⟩ := hd
  have hm : m ≤ 140737488355328 := by
    have : (1 : Int) * m ≤ (by' : Int) * m := Int.mul_le_mul_of_nonneg_right (by omega) h0
    omega
  have hr := run_make (P := P) W t e i z ht hi hiz q q m m h0 (Int.le_refl _) (by rw [hby]; omega) (by omega)
  have hcs := replicate_flatten_cells z.cells m.toNat (by omega)
  rw [hzz] at hcs
  refine wp_of_run (by simp [hop]) (v := .slice (some ⟨W.heap.size, 0, none⟩) m.toNat m.toNat) (W' := W.alloc (.cells (madeCells z.cells (m.toNat * i.size)) e)) (by simp [execOp, hop, rx, hr]) ?_
  refine OpPost.new C.sim C.mH C.fresh ((Below.refl _ _).alloc (Nat.le_refl _) _) hd (u := .slice (some ⟨W.heap.size, 0, none⟩) m.toNat m.toNat) ⟨?_, ?_, ?_⟩ trivial rfl ?_ ?_ (.inr rfl)
  · rw [upd_same]
    have hlen : (List.replicate m.toNat zs).flatten.length = m.toNat * zs.length := by simp [List.length_flatten]
    refine ⟨hlen, .inr ⟨W.heap.size, m.toNat, _, rfl, Nat.zero_le _, heap_alloc_new W _, Nat.le_refl _, by unfold maxLen; omega, ?_, ?_⟩⟩
    · rw [size_madeCells, hsz]
    · rw [← hsz, hcs, hzs]
      exact List.take_of_length_le (by rw [hlen]; exact Nat.le_refl _)
  · intro v hv
    obtain ⟨l, hl, hvl⟩ := List.mem_flatten.1 hv
    rw [List.mem_replicate] at hl
    exact h1 v (hl.2 ▸ hvl)
  · intro b hb; rw [upd_same] at hb; simp only [blkOf, Option.some.injEq] at hb; subst hb; exact .inl C.sim.below.size
  · intro b hb; simp [blkOf] at hb; omega
  · exact ⟨by rw [upd_same], _, _, upd_same _ _ _⟩

theorem op_aaddr (C : Ctx w0 G0 Gr G M E H Hv hid fr a W) {t e : TypeId} {n k : Nat} {x i : Operand} {x' i' : Opd} (hx : compOpd x = some x') (hi : compOpd i = some i') (ht : P.underlying t = some (.array n e)) (hk : szT P e = some k) (hk1 : 1 ≤ k)
    (hop : o.op = .indexAddr t x i) (hd : (ev tab fr Hv hid (.aaddr k n x' i')).den P hid Gr G K) : Goal P o a W rd nn Q w0 G0 M E H hid K := by
  have rx := opd_rel C.rfr hx
  have mx := opd_ment C.mfr x'
  have ri := opd_rel C.rfr hi
  have h2 := run_sizeOf' (W := W) hk
  simp only [ev] at hd
  split at hd
  case h_2 => exact hd.elim
  rename_i q j ei
  rw [ei] at ri
  have ri : a.eval i = .int q j := ri
  have run : ∀ b off, a.eval x = .pointer (some ⟨b, off, none⟩) → 0 ≤ j ∧ j < (n : Int) → (execOp a.eval o).run P W = .ok (.value (.pointer (some ⟨b, off + j.toNat * k, none⟩))) W := fun b off ex hj => by
    simp [execOp, hop, ex, ri, Instr.indexAt, asIntOf, run_underlying ht, Instr.sureAddr, hj.1, hj.2, h2, Addr.add_lit]
  split at hd
  case h_4 => exact hd.elim
  · rename_i h off ex
    rw [ex] at rx mx
    obtain ⟨b, e1, e2⟩ := rx
    exact C.quiet (by simp [hop]) (run b off e2 hd.h) hd.k.out ⟨b, e1, rfl⟩ mx
  · rename_i h off ex
    rw [ex] at rx mx
    obtain ⟨b, e1, e2⟩ := rx
    exact C.quiet (by simp [hop]) (run b off e2 hd.h) hd.k.out ⟨b, e1, rfl⟩ mx
  · rename_i b off ex
    rw [ex] at rx
    exact C.quiet (by simp [hop]) (run b off rx hd.h) hd.k.out rfl trivial

theorem op_mkf (C : Ctx w0 G0 Gr G M E H Hv hid fr a W) {f : FuncId} {first caps : Array Operand} {xs ys : List Opd} (hxs : compOpds first.toList = some xs) (hys : compOpds caps.toList = some ys)
    (hop : o.op = .makeFunc (.func f) first caps) (hd : (ev tab fr Hv hid (.mkf f xs ys)).den P hid Gr G K) : Goal P o a W rd nn Q w0 G0 M E H hid K := by
  simp only [ev] at hd
  split at hd
  case h_2 => exact hd.elim
  rename_i vs ws e1 e2
  have a1 := opds_rel C.rfr (fun h ob v e e' => C.sim.name (C.view h ob e) e') hxs e1
  have a2 := opds_rel C.rfr (fun h ob v e e' => C.sim.name (C.view h ob e) e') hys e2
  have b1 : first.map a.eval = vs.toArray := by rw [← a1]; apply Array.ext'; simp
  have b2 : caps.map a.eval = ws.toArray := by rw [← a2]; apply Array.ext'; simp
  exact C.quiet (v := .func (.func f) vs.toArray ws.toArray) (by simp [hop]) (by simp [execOp, hop, Instr.makeFunc, b1, b2]) hd rfl trivial

theorem getObj_map' {b clock : Nat} {es : Array MapEntry} (hw : W.heap[b]? = some (.map es clock)) : (getObj b).run P W = .ok (.map es clock) W := by simp [getObj, Sem.run, hw]
theorem setObj_map' {b clock : Nat} {es : Array MapEntry} (o : Obj) (hw : W.heap[b]? = some (.map es clock)) : (setObj b o).run P W = .ok () { W with heap := W.heap.setIfInBounds b o } := by simp [setObj, Sem.run, hw]
theorem run_findKey_nil {kt : TypeId} {d : TypeDesc} (h : P.underlying kt = some d) (k : Value) : (Instr.findKey kt k []).run P W = .ok none W := by
  simp [Instr.findKey, run_underlying h, Instr.findNow]

theorem op_mkm (C : Ctx w0 G0 Gr G M E H Hv hid fr a W) {t : TypeId} (hop : o.op = .makeMap t none) (hd : (ev tab fr Hv hid .mkm).den P hid Gr G K) : Goal P o a W rd nn Q w0 G0 M E H hid K := by
  refine wp_of_run (W' := W.alloc (.map #[] 0)) (v := .map (some W.heap.size)) (by simp [hop]) (by simp [execOp, hop, Instr.makeMap]) ?_
  refine OpPost.new C.sim C.mH C.fresh ((Below.refl _ _).alloc (Nat.le_refl _) _) hd (u := .map (some W.heap.size)) ?_ trivial rfl ?_ ?_ (.inr rfl)
  · exact ⟨W.heap.size, by rw [upd_same], .inl C.sim.below.size, heap_alloc_new W _, trivial⟩
  · intro b hb; simp [blkOf] at hb; omega
  · exact ⟨by rw [upd_same], _, upd_same _ _ _⟩

theorem op_lkp (C : Ctx w0 G0 Gr G M E H Hv hid fr a W) {t kt e : TypeId} {z : Value} {ok : Bool} {x key : Operand} {x' key' : Opd} (hx : compOpd x = some x') (hk : compOpd key = some key') (ht : P.underlying t = some (.map kt e)) (hz : zeroV P e = some z)
    (hop : o.op = .lookup t x key ok) (hd : (ev tab fr Hv hid (.lkp kt z ok x' key')).den P hid Gr G K) : Goal P o a W rd nn Q w0 G0 M E H hid K := by
  have rx := opd_rel C.rfr hx
  have rk := opd_rel C.rfr hk
  have hzr : (zeroValue e).run P W = .ok z W := by
    unfold zeroV at hz
    cases hi : P.info? e with
    | none => rw [hi] at hz; cases hz
    | some i => rw [hi] at hz; simp only at hz; simp [zeroValue, typeInfo, hi, hz]
  simp only [ev] at hd
  split at hd
  case h_2 => exact hd.elim
  rename_i kv ek
  have rk : a.eval key = kv := SV.toVal_rel (fun h ob v e e' => C.sim.name (C.view h ob e) e') rk ek
  split at hd
  case h_3 => exact hd.elim
  · rename_i h ex
    rw [ex] at rx
    obtain ⟨e1, b, e2⟩ := rx
    split at hd
    case h_2 => exact hd.elim
    rename_i s es clock hH
    obtain ⟨b', e3, _, hw, _⟩ := C.sim.own _ _ (C.view _ _ hH)
    rw [e2] at e3; cases e3
    obtain ⟨r, hf, ⟨hd⟩⟩ := hd
    refine C.quiet (by simp [hop]) (v := lookV z ok es r) ?_ hd (SV.of_rel' E _) (SV.of_ment' M _)
    simp only [execOp, hop, rk, e1, e2]
    simp only [Sem.run_bind, Instr.lookup, run_underlying ht, Result.andThen, getObj_map' hw, Sem.run_pure, hf.ck, hf.find]
    unfold lookV
    cases hm : mapAt es r with
    | none => cases ok <;> simp [hzr, Result.andThen]
    | some q => cases ok <;> simp [Result.andThen]
  · rename_i ex
    rw [ex] at rx
    have rx : a.eval x = .map none := rx
    obtain ⟨r, hf, ⟨hd⟩⟩ := hd
    refine C.quiet (by simp [hop]) (v := lookV z ok #[] r) ?_ hd (SV.of_rel' E _) (SV.of_ment' M _)
    have hfind : ∀ W, (Instr.findKey kt kv []).run P W = .ok (mapAt #[] r) W := fun W => by simpa using hf.find W
    simp only [execOp, hop, rk, rx]
    simp only [Sem.run_bind, Instr.lookup, run_underlying ht, Result.andThen, Sem.run_pure, hf.ck, hfind]
    unfold lookV
    cases hm : mapAt #[] r with
    | none => cases ok <;> simp [hzr, Result.andThen]
    | some q => cases ok <;> simp [Result.andThen]

theorem op_mup (C : Ctx w0 G0 Gr G M E H Hv hid fr a W) {t kt e : TypeId} {m key x : Operand} {m' key' x' : Opd} (hm : compOpd m = some m') (hk : compOpd key = some key') (hx : compOpd x = some x') (ht : P.underlying t = some (.map kt e))
    (hop : o.op = .mapUpdate t m key x) (hd : (ev tab fr Hv hid (.mup kt m' key' x')).den P hid Gr G K) : Goal P o a W rd nn Q w0 G0 M E H hid K := by
  have rm := opd_rel C.rfr hm
  have rk := opd_rel C.rfr hk
  have rx := opd_rel C.rfr hx
  simp only [ev] at hd
  split at hd
  case h_2 => exact hd.elim
  rename_i kv ek
  have rk : a.eval key = kv := SV.toVal_rel (fun h ob v e e' => C.sim.name (C.view h ob e) e') rk ek
  split at hd
  case h_2 => exact hd.elim
  rename_i vv ev'
  have rx : a.eval x = vv := SV.toVal_rel (fun h ob v e e' => C.sim.name (C.view h ob e) e') rx ev'
  split at hd
  case h_2 => exact hd.elim
  rename_i h em
  rw [em] at rm
  obtain ⟨e1, b, e2⟩ := rm
  split at hd
  case h_2 => exact hd.elim
  rename_i s es clock hH
  have hH' := C.view _ _ hH
  obtain ⟨b', e3, hmine, hw, hat⟩ := C.sim.own _ _ hH'
  rw [e2] at e3; cases e3
  obtain ⟨r, hf, ⟨hd⟩⟩ := hd
  obtain ⟨W', hW'⟩ : ∃ W' : World, W' = { W with heap := W.heap.setIfInBounds b (.map (putE es clock kv vv r).1 (putE es clock kv vv r).2) } := ⟨_, rfl⟩
  have hlt := (Array.getElem?_eq_some_iff.1 hw).1
  have hrun : (Instr.mapUpdate t (.map (some b)) kv vv).run P W = .ok () W' := by
    unfold Instr.mapUpdate
    simp only [Sem.run_bind, run_underlying ht, Result.andThen, getObj_map' hw, hf.ck, hf.find]
    cases r with
    | none => simp [mapAt, setObj_map' _ hw, putE, hW']
    | some i =>
      have hs := hf.same i rfl
      simp [mapAt, Instr.keyThatStays, hs, setObj_map' _ hw, putE, hW']
  refine wp_of_skip (W' := W') (by simp [hop]) (by simp [execOp, hop, rk, rx, e1, e2, hrun]) ?_
  refine ⟨.c .any, _, G, E, hd, trivial, trivial, Agree.refl _ _, C.sim.set (W' := W') hH' rfl (by rw [e2]; rfl) (by rw [hW']; exact ⟨rfl, rfl, rfl, by simp⟩) (fun k _ hk => by rw [hW']; simp [Array.getElem?_setIfInBounds_ne (Ne.symm hk)]) ?_ rfl, ?_⟩
  · exact ⟨b, e2, hmine, by rw [hW']; simp [hlt], hat⟩
  · intro k ob2 e
    simp only [updH] at e
    by_cases hki : k = h
    · subst hki; rw [upd_same] at e; cases e; exact ⟨.inl (C.mH _ _ hH').1, trivial⟩
    · rw [upd_other _ _ hki] at e; exact ⟨.inl (C.mH k ob2 e).1, OB.ment_mono (fun _ h => .inl h) (C.mH k ob2 e).2⟩
end
end Go.Pal
