/- Runs of the model's entries, as the intermediate form needs them. -/
import Derived.Test.YtcmhpndhloplpaaPalC
namespace Go.Pal
open Go.RowKit
section
variable {P : Program} {W : World}

theorem run_isAgg' {t : TypeId} {g : Bool} (h : aggT P t = some g) : (isAgg t).run P W = .ok g W := by
  unfold aggT at h
  cases hu : P.underlying t with
  | none => simp [hu] at h
  | some d => cases d <;> simp [hu] at h <;> subst h <;> simp [isAgg, run_underlying hu]
theorem run_sizeOf' {t : TypeId} {n : Nat} (h : szT P t = some n) : (sizeOf t).run P W = .ok n W := by
  unfold szT at h
  cases hu : P.info? t with
  | none => simp [hu] at h
  | some d => simp [hu] at h; subst h; simp [sizeOf, typeInfo, hu]
theorem run_zero' {t : TypeId} {zs : List Value} (h : zeroT P t = some zs) : ∃ z i, P.info? t = some i ∧ i.zero = some z ∧ z.cells.toList = zs ∧ zs.length = i.size ∧ (∀ v ∈ zs, v.oneCell' = true) ∧ (zeroValue t).run P W = .ok z W := by
  unfold zeroT at h
  cases hu : P.info? t with
  | none => simp [hu] at h
  | some i =>
    simp only [hu] at h
    cases hz : i.zero with
    | none => simp [hz] at h
    | some z =>
      simp only [hz] at h
      cases hc : (Nat.beq z.cells.size i.size && z.cells.toList.all (·.oneCell')) with
      | false => rw [hc] at h; cases h
      | true =>
        rw [hc] at h
        simp only [cond_true, Option.some.injEq] at h
        subst h
        rw [Bool.and_eq_true] at hc
        have h1 : z.cells.size = i.size := Nat.eq_of_beq_eq_true hc.1
        refine ⟨z, i, rfl, hz, rfl, by simpa using h1, fun v hv => List.all_eq_true.1 hc.2 v hv, ?_⟩
        simp [zeroValue, typeInfo, hu, hz]

def mkV (g : Bool) (cs : List Value) : Value := match g with
  | true => .agg cs.toArray
  | false => cs.headD undef

theorem run_loadAt' {t : TypeId} {n : Nat} {g : Bool} (hn : szT P t = some n) (hg : aggT P t = some g) (hgn : g = true ∨ n = 1) {b off : Nat} {cs : List Value} (hl : cs.length = n)
    (hc : ∀ j v, cs[j]? = some v → W.cell? ⟨b, off + j, none⟩ = some v) : (Instr.loadAt t (.pointer (some ⟨b, off, none⟩))).run P W = .ok (mkV g cs) W := by
  have h1 := run_isAgg' (W := W) hg
  have h2 := run_sizeOf' (W := W) hn
  cases g with
  | true =>
    have h3 := run_loadCells_list (P := P) W ⟨b, off, none⟩ cs (fun j v hj => by rw [Addr.add_lit]; exact hc j v hj)
    rw [hl] at h3
    simp [Instr.loadAt, Instr.sureAddr, loadVar, h1, h2, h3, mkV]
  | false =>
    have hn1 : n = 1 := by simpa using hgn
    rw [hn1] at hl
    match cs, hl with
    | [v], _ =>
      have h3 := hc 0 v rfl
      simp only [Nat.add_zero] at h3
      simp [Instr.loadAt, Instr.sureAddr, loadVar, h1, h3, mkV]

theorem mkV_rel {E : Nat → Value} {g : Bool} {n : Nat} (hgn : g = true ∨ n = 1) {cs : List S1} {vs : List Value} (hl : vs.length = n) (hr : relL E cs vs) : (SV.mk g cs).rel E (mkV g vs) := by
  cases g with
  | true => exact ⟨vs, rfl, hr⟩
  | false =>
    have hn1 : n = 1 := by simpa using hgn
    rw [hn1] at hl
    match vs, hl, cs, hr with
    | [v], _, [c], hr => exact hr.1
    | [v], _, [], hr => exact hr.elim
    | [v], _, _ :: _ :: _, hr => exact hr.2.elim
theorem SV.mk_ment {M : Nat → Prop} {g : Bool} {cs : List S1} (h : ∀ c ∈ cs, c.ment M) : (SV.mk g cs).ment M := by
  cases g with
  | true => exact h
  | false =>
    match cs, h with
    | [], _ => trivial
    | [x], h => exact h x (by simp)
    | _ :: _ :: _, _ => trivial
theorem S1.of_rel (E : Nat → Value) (v : Value) : (S1.of v).rel E v := by cases v <;> rfl
theorem S1.of_ment (M : Nat → Prop) (v : Value) : (S1.of v).ment M := by cases v <;> trivial
theorem relL_of (E : Nat → Value) : ∀ vs : List Value, relL E (vs.map S1.of) vs
  | [] => trivial
  | v :: vs => ⟨S1.of_rel E v, relL_of E vs⟩

/-- A value's cells. -/
theorem SV.cells_rel {E : Nat → Value} {sv : SV} {v : Value} (h : sv.rel E v) (h1 : allOne sv.cells = true) : relL E sv.cells v.cells.toList := by
  cases sv with
  | agg cs => obtain ⟨vs, rfl, hr⟩ := h; simpa [SV.cells, Value.cells] using hr
  | c x =>
    cases x with
    | any => simp [SV.cells, allOne, S1.one] at h1
    | pos => simp [SV.cells, allOne, S1.one] at h1
    | val u =>
      have hu : v = u := h
      subst hu
      cases v <;> first | exact ⟨rfl, trivial⟩ | exact relL_vals E _
    | sb b => cases h; exact ⟨rfl, trivial⟩
    | ptr k o => obtain ⟨b, e1, e2⟩ := h; subst e2; exact ⟨⟨b, e1, rfl⟩, trivial⟩
    | ptrx k o => obtain ⟨b, e1, e2⟩ := h; subst e2; exact ⟨⟨b, e1, rfl⟩, trivial⟩
    | rptr k o => obtain ⟨b, n, c, e1, e2⟩ := h; subst e2; exact ⟨⟨b, n, c, e1, rfl⟩, trivial⟩
    | row k n => obtain ⟨e1, a, c, e2⟩ := h; rw [e1, e2]; exact ⟨⟨e2.symm, a, c, e2⟩, trivial⟩
    | mref k => obtain ⟨e1, b, e2⟩ := h; rw [e1, e2]; exact ⟨⟨e2.symm, b, e2⟩, trivial⟩
theorem SV.cells_ment {M : Nat → Prop} {sv : SV} (h : sv.ment M) : ∀ c ∈ sv.cells, c.ment M := by
  cases sv with
  | agg cs => exact h
  | c x =>
    cases x with
    | val u => cases u <;> simp [SV.cells, S1.ment]
    | _ => simp [SV.cells]; exact h
theorem allOne_rel {E : Nat → Value} : ∀ {cs : List S1} {vs : List Value}, relL E cs vs → allOne cs = true → ∀ v ∈ vs, v.oneCell' = true
  | [], [], _, _, v, hv => by cases hv
  | c :: cs, u :: vs, hr, h, v, hv => by
    simp only [allOne] at h
    cases hc : c.one with
    | false => rw [hc] at h; cases h
    | true =>
      rw [hc] at h
      rcases List.mem_cons.1 hv with rfl | hv
      · have hr := hr.1
        cases c with
        | any => simp [S1.one] at hc
        | pos => simp [S1.one] at hc
        | val w => cases hr; exact hc
        | sb b => cases hr; rfl
        | ptr k o => obtain ⟨_, _, e⟩ := hr; rw [e]; rfl
        | ptrx k o => obtain ⟨_, _, e⟩ := hr; rw [e]; rfl
        | rptr k o => obtain ⟨_, _, _, _, e⟩ := hr; rw [e]; rfl
        | row k n => obtain ⟨e, _, _, e'⟩ := hr; rw [e, e']; rfl
        | mref k => obtain ⟨e, _, e'⟩ := hr; rw [e, e']; rfl
      · exact allOne_rel hr.2 h v hv
theorem toVals_rel {E : Nat → Value} : ∀ {cs : List S1} {us vs : List Value}, relL E cs vs → toVals cs = some us → vs = us
  | [], us, [], _, h => by cases h; rfl
  | c :: cs, us, v :: vs, hr, h => by
    simp only [toVals] at h
    split at h
    · rename_i u hu
      split at h
      · rename_i us' hus
        cases h
        rw [toVals_rel hr.2 hus]
        congr 1
        have hc := hr.1
        cases c <;> simp only [S1.toVal] at hu <;> first | (cases hu; exact hc) | cases hu
      · cases h
    · cases h
  | [], _, _ :: _, hr, _ => hr.elim
  | _ :: _, _, [], hr, _ => hr.elim

theorem run_storeAt' {t : TypeId} {n : Nat} (hn : szT P t = some n) {b off : Nat} {v : Value} {cur : Array Value} {et : TypeId} (hl : v.cells.toList.length = n) (hw : W.heap[b]? = some (.cells cur et (0, 0)))
    (hfit : off + n ≤ cur.size) (h1 : ∀ u ∈ v.cells.toList, u.oneCell' = true) :
    (Instr.storeAt t (.pointer (some ⟨b, off, none⟩)) v).run P W = .ok () (W.setRow b (cur.toList.take off ++ v.cells.toList ++ cur.toList.drop (off + n)).toArray) := by
  have h2 := run_sizeOf' (W := W) hn
  have h3 := run_storeCells_at P b off et v.cells.toList 0 cur W hw (by rw [hl]; omega) h1
  simp only [Nat.add_zero, hl] at h3
  have h4 : v.cells.size = n := by simpa using hl
  simp [Instr.storeAt, Instr.sureAddr, storeVar, h2, h3, h4]

end
end Go.Pal
