/- The first law: the row. -/
import Derived.Test.YtcmhpndhloplpaaL1Y
import Derived.Test.YtcmhpndhloplpaaRows
import Derived.ProofKit
import Derived.Deep.Slices
import Derived.Deep.Fields
import Derived.ChangeSame
import Derived.Lib.SmallJoins
import Derived.OpenShut
import Derived.ChangeOld
import Derived.Below
namespace Go.Proofs.Ytcmhpndhloplpaa
open Go.Pal
open Go.ChangeShapes Go.WideShapes Go.ChangeAt Go.RowKit Go.Joins Go.Deep

section
variable {H : Type} {enc : TypeId × Value → H} {P : Program} {w : World} {base : Nat} {spare : Nat → Bool} {held : Bool}
/-- A slice of structs, its fields. -/
theorem slice_fields {t e : TypeId} {fs : Array Field} {fuel : Nat} {cs : List Value} {x : DataW H × List MemPlace} (ht : P.underlying t = some (.slice e)) (he : P.underlying e = some (.struct fs))
    (hone : oneCellFields P fs = true) (hC : P.cellsOf e = fs.size) (h : DataW.trod enc P w base spare held fuel t cs = some x) :
    (cs = [.slice none 0 0]) ∨
    ∃ (a : Addr) (len cap : Nat), cs = [.slice (some a) len cap] ∧ len ≤ cap ∧ cap ≤ maxLen ∧
      ∀ i, i < len → ∀ (j : Nat) (f : Field), fs[j]? = some f → ∃ (v : Value) (n : Nat) (y : DataW H × List MemPlace), w.cell? (a.add (i * fs.size + j)) = some v ∧ DataW.trod enc P w base spare held n f.type [v] = some y := by
  rcases open_slice ht h with h0 | ⟨a, len, cap, m, n, D, Pl, hcs, hb, hl, hm, hmm, hx, hi⟩
  · exact .inl h0.1
  · refine .inr ⟨a, len, cap, hcs, hl, hm, fun i hil j f hj => ?_⟩
    have him : i < m := by rw [hmm]; split <;> omega
    obtain ⟨cs', hc, ht'⟩ := hi i him
    rw [hC] at hc
    obtain ⟨ys, n', hn', hy, hlen, hyl, hf⟩ := DataW.trod_struct he ht'
    obtain ⟨_, hcl, hat⟩ := World.cells?_some hc
    obtain ⟨ho, hk⟩ := hone_of hone j f hj
    have hjl : j < fs.size := (Array.getElem?_eq_some_iff.1 hj).1
    have hcell := hat j hjl
    have hv : cs'[j]? = some (cs'[j]'(by omega)) := List.getElem?_eq_getElem (by omega)
    have h1 := hf j f hj
    rw [ho, hk] at h1
    have hone' : (cs'.drop j).take 1 = [cs'[j]'(by omega)] := by
      rw [List.drop_eq_getElem_cons (by omega)]
      rfl
    rw [hone'] at h1
    have hys : ys[j]? = some (ys[j]'(by omega)) := List.getElem?_eq_getElem (by omega)
    refine ⟨_, _, _, ?_, h1.trans hys⟩
    rw [← Go.Deep.add_add, hcell, hv]
end

abbrev hpOf (W : World) : Hp := fun b => W.heap[b]?
theorem law3_calls {W : World} {v0 : Value} {s : Sit} (h : drawnS [v0] (hpOf W) s) : Calls Try.prog 3 #[v0] W fun e W' => e = .returned (.bool true) ∧ Below W.heap.size W W' := by
  have := law3 [v0] (hpOf W) W (fun b o e => e) ⟨s, h⟩
  refine this.mono fun e W' ⟨v, h1, ⟨_, _, h2⟩, h3⟩ => ⟨by rw [h1, h2], h3⟩
theorem cell_rd {W : World} {b off : Nat} {v : Value} (h : W.cell? ⟨b, off, none⟩ = some v) : rd1 (hpOf W) b off = some v := by
  unfold World.cell? at h
  unfold rd1 hpOf
  cases hg : W.heap[b]? with
  | none => simp [hg] at h
  | some o => cases o <;> simp_all

theorem addr_add (b off k : Nat) : (⟨b, off, none⟩ : Addr).add k = ⟨b, off + k, none⟩ := by
  unfold Addr.add; split
  · rename_i h; rw [h]; rfl
  · rfl
section
variable {H : Type} {enc : TypeId × Value → H} {W : World} {base : Nat} {spare : Nat → Bool} {held : Bool}
theorem uSpan : Try.prog.underlying 41 = some (.struct #[{ name := "From", type := 3, offset := 0, embedded := false, tag := "", pkgPath := "", byteOffset := 0 }, { name := "To", type := 3, offset := 1, embedded := false, tag := "", pkgPath := "", byteOffset := 8 }]) := by kernel_rfl
theorem uPauses : Try.prog.underlying 22 = some (.slice 41) := by kernel_rfl
/-- A drawn list of stretches is read. -/
theorem spans_of {fuel : Nat} {v : Value} {x : DataW H × List MemPlace} (h : DataW.trod enc Try.prog W base spare held fuel 22 [v] = some x) : ∃ a n c l, v = .slice a n c ∧ SlR spanE.k spanE.R (hpOf W) a n c l := by
  rcases slice_fields uPauses uSpan (by kernel_rfl) (by kernel_rfl) h with h0 | ⟨a, len, cap, hcs, hl, hm, hi⟩
  · simp only [List.cons.injEq, and_true] at h0
    subst h0
    exact ⟨none, 0, 0, [], rfl, rfl, Nat.le_refl _, fun h => absurd rfl h, fun i hi => by simp at hi⟩
  · simp only [List.cons.injEq, and_true] at hcs
    subst hcs
    have key : ∀ i, i < len → ∃ p : Span, W.cell? (a.add (i * 2)) = some (I p.fr) ∧ W.cell? (a.add (i * 2 + 1)) = some (I p.to) := fun i hil => by
      obtain ⟨v0, n0, y0, c0, t0⟩ := hi i hil 0 _ rfl
      obtain ⟨v1, n1, y1, c1, t1⟩ := hi i hil 1 _ rfl
      obtain ⟨k0, e0, _⟩ := DataW.trod_int u3 t0
      obtain ⟨k1, e1, _⟩ := DataW.trod_int u3 t1
      simp only [List.cons.injEq, and_true] at e0 e1
      subst e0 e1
      exact ⟨⟨k0, k1⟩, c0, c1⟩
    have all : ∀ k, k ≤ len → ∃ l : List Span, l.length = k ∧ ∀ i (hi : i < l.length), W.cell? (a.add (i * 2)) = some (I l[i].fr) ∧ W.cell? (a.add (i * 2 + 1)) = some (I l[i].to) := fun k => by
      induction k with
      | zero => exact fun _ => ⟨[], rfl, fun i hi => by simp at hi⟩
      | succ k ih =>
        intro hk
        obtain ⟨l, hl1, hl2⟩ := ih (by omega)
        obtain ⟨p, hp⟩ := key k (by omega)
        refine ⟨l ++ [p], by simp [hl1], fun i hi => ?_⟩
        by_cases h : i < l.length
        · rw [List.getElem_append_left h]; exact hl2 i h
        · have : i = l.length := by simp at hi; omega
          subst this
          simp only [List.getElem_concat_length]
          rw [hl1]; exact hp
    obtain ⟨l, hl1, hl2⟩ := all len (Nat.le_refl _)
    by_cases hz : len = 0
    · have : l = [] := List.eq_nil_of_length_eq_zero (by omega)
      exact ⟨some a, len, cap, [], rfl, hz.symm ▸ rfl, hl, fun h => absurd hz h, fun i hi => by simp at hi⟩
    · obtain ⟨b, off, spot⟩ := a
      have hsp := World.cell?_spot (hl2 0 (by omega)).1
      have : spot = none := by simpa [Addr.add] using hsp
      subst this
      refine ⟨some ⟨b, off, none⟩, len, cap, l, rfl, hl1, hl, fun _ => rfl, fun i hi => ⟨spanE.f l[i], rfl, ?_, rfl⟩⟩
      · obtain ⟨c0, c1⟩ := hl2 i hi
        rw [addr_add] at c0 c1
        intro j v hj
        match j, hj with
        | 0, hj => cases hj; exact cell_rd c0
        | 1, hj => cases hj; exact cell_rd c1
        | j + 2, hj => simp [spanE] at hj
end
theorem uSit : Try.prog.underlying 24 = some (.struct #[{ name := "Length", type := 3, offset := 0, embedded := false, tag := "", pkgPath := "", byteOffset := 0 }, { name := "Pauses", type := 22, offset := 1, embedded := false, tag := "", pkgPath := "", byteOffset := 8 }, { name := "Long", type := 3, offset := 2, embedded := false, tag := "", pkgPath := "", byteOffset := 32 }, { name := "Short", type := 3, offset := 3, embedded := false, tag := "", pkgPath := "", byteOffset := 40 }]) := by kernel_rfl
theorem uBool : Try.prog.underlying 4 = some .bool := by kernel_rfl
theorem own0 : ownKnob Try.prog.godebug = none := by kernel_rfl
theorem laidOut0 : laidOutB Try.prog = true := by kernel_rfl
set_option maxRecDepth 100000 in
theorem sit_open {H : Type} {enc : TypeId × Value → H} {W : World} {base b0 : Nat} {spare : Nat → Bool} {held : Bool} {r : Reach} {v : Value} {d : DataW H} {ps : List MemPlace} (hv : Value.okWide Try.prog W r b0 24 v) (h : DataW.Trod enc Try.prog W base spare held 24 v d ps) : ∃ s, drawnS [v] (hpOf W) s := by
  obtain ⟨v0, v1, v2, v3, y0, y1, y2, y3, n, rfl, _, _, h0, h1, h2, h3⟩ := open_agg4 uSit (by kernel_rfl) (by kernel_rfl) hv h
  obtain ⟨k0, e0, _⟩ := DataW.trod_int u3 h0
  obtain ⟨k2, e2, _⟩ := DataW.trod_int u3 h2
  obtain ⟨k3, e3, _⟩ := DataW.trod_int u3 h3
  obtain ⟨a, m, c, l, rfl, hl⟩ := spans_of h1
  simp only [List.cons.injEq, and_true] at e0 e2 e3
  subst e0 e2 e3
  exact ⟨⟨k0, l, k2, k3⟩, a, m, c, rfl, hl⟩
set_option maxRecDepth 100000 in
theorem lengths_lifted (os : Os) (started : os.Started) (H : Type) (enc : TypeId × Value → H) :
    ReturnsInHanded {} Try.checked os 3 .any (Rows.takeLengthsSpec.pre6 enc Try.prog Try.f3 Rows.takeLengthsRow.domain false) (Rows.takeLengthsSpec.post enc Try.prog Try.f3 false true false false) := by
  refine returnsInHanded_of_change (C := Try.checked) own0 started (by kernel_rfl) Try.func3
    (ChangeSpec.witness6 (enc := enc) (C := Try.checked) false ⟨#[], #[.agg #[.int .i64 0, .slice none 0 0, .int .i64 0, .int .i64 0]], []⟩ 8 (by kernel_rfl) (by kernel_rfl) (by kernel_rfl) (by kernel_rfl)) ?_
  intro W base args ds gs before hval0 hW hcnd _
  have hval : ∀ (j : Nat) t v, Try.f3.params[j]? = some t → args[j]? = some v → Value.okWide Try.prog W .any base t v := hval0
  have hW' := hW
  obtain ⟨p, q, hA0, hV, rfl, hfz, hnd⟩ := hW
  have hA : DataW.TrodAll enc Try.prog W 0 (fun _ => true) true Try.f3.params.toList args.toList ds p := hA0
  rw [Try.params3] at hA hval
  obtain ⟨v0, vs0, d0, ds0, p0, q0, hargs, rfl, rfl, h0, r0⟩ := trodAll_cons hA
  obtain ⟨rfl, rfl, rfl⟩ := trodAll_nil r0
  obtain rfl : args = #[v0] := by cases args; simp_all
  obtain ⟨rfl, rfl⟩ := trodVars_none hV
  have k0 := h0
  have lt0 : ∀ x ∈ p0, x.block < W.heap.size := by obtain ⟨m, hm⟩ := k0; exact DataW.trod_lt m _ _ _ hm
  obtain ⟨s, hs⟩ := sit_open (hval 0 24 v0 rfl rfl) h0
  clear hA0 hval0
  refine (law3_calls hs).mono fun e W' ⟨he, bel⟩ => ?_
  subst he
  exact ⟨_, rfl, _, _, _, [], _, [], hW', trodAll_mk1 (shut_bool uBool _), (trodAll_cons_mk (Below.trod laidOut0 (by kernel_rfl) (of_decide_eq_true (by kernel_rfl)) k0 bel lt0) trodAll_mk0), rfl, bel.frame _, fun h => by cases h⟩

theorem lengths_over : Rows.takeLengthsRow.holds Try.pinned (OpenSpec.ofChange Rows.takeLengthsSpec) :=
  OpenClaim.holds_of_wide 3 Try.f3 rfl rfl rfl rfl rfl rfl rfl ⟨rfl, rfl, rfl, rfl, rfl⟩ rfl rfl rfl rfl rfl (by kernel_rfl) Try.func3 (by kernel_rfl)
    (of_decide_eq_true (by kernel_rfl)) (by unfold Func.isWrapper; first | (rw [if_pos (by decide +kernel)]; kernel_rfl) | (rw [if_neg (by decide +kernel)]; exact ⟨rfl, rfl⟩))
    (fun os started H enc _ => lengths_lifted os started H enc)
theorem takeLengths_proved : Rows.TakeLengthsSaid := lengths_over
#print axioms takeLengths_proved
end Go.Proofs.Ytcmhpndhloplpaa
