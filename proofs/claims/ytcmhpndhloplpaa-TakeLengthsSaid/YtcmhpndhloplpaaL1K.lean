/- The work: states as keys of a map. -/
import Derived.Test.YtcmhpndhloplpaaL1J
import Derived.DeepKeys3
namespace Go.Pal
open Go

theorem keyFind_of {P : Program} {k : TypeId} (L : WideMaps.KeyLaw P k) {x : Value} {lx : Lit} (hx : keyOf P k x = some lx) (hs : Instr.sameBits 10000 x x = true) {es : Array MapEntry} (hall : ∀ e ∈ es.toList, ∃ l, keyOf P k e.key = some l) (hnd : (es.toList.map (·.key)).Nodup) :
    (KeyFind P k x es none ∧ ∀ e ∈ es.toList, e.key ≠ x) ∨ ∃ (j : Nat) (e : MapEntry), KeyFind P k x es (some j) ∧ es[j]? = some e ∧ e.key = x := by
  by_cases hex : ∃ e ∈ es.toList, e.key = x
  · right
    obtain ⟨e, he, hk⟩ := hex
    obtain ⟨j, hj, hje⟩ := List.getElem_of_mem he
    have hj' : es.toList[j]? = some e := by rw [List.getElem?_eq_getElem hj, hje]
    refine ⟨j, e, ⟨fun W em => L.check W em hx, fun W => ?_, fun i hi => ?_⟩, by simpa using hj', hk⟩
    · rcases L.find W hx es.toList hall with ⟨_, h2⟩ | ⟨i, e', h1, h2, h3⟩
      · exact absurd hk (h2 e he)
      · have k1 : (es.toList.map (·.key))[i]? = some x := by simp only [List.getElem?_map, h2, Option.map_some, h3]
        have k2 : (es.toList.map (·.key))[j]? = some x := by simp only [List.getElem?_map, hj', Option.map_some, hk]
        have l1 := (List.getElem?_eq_some_iff.1 k1).1
        have : i = j := (List.getElem?_inj l1 hnd).1 (k1.trans k2.symm)
        subst this
        rw [h1]
        have h2' : es[i]? = some e' := by simpa using h2
        simp [mapAt, h2']
    · cases hi
      have hj'' : es[j]? = some e := by simpa using hj'
      simp only [hj'', Option.map_some, Option.getD_some, hk]; exact hs
  · left
    have hno : ∀ e ∈ es.toList, e.key ≠ x := fun e he hk => hex ⟨e, he, hk⟩
    refine ⟨⟨fun W em => L.check W em hx, fun W => ?_, fun i hi => by cases hi⟩, hno⟩
    rcases L.find W hx es.toList hall with ⟨h1, _⟩ | ⟨i, e', h1, h2, h3⟩
    · exact h1
    · exact absurd h3 (hno e' (List.mem_of_getElem? h2))
end Go.Pal
namespace Go.Proofs.Ytcmhpndhloplpaa
open Go.Pal Go

set_option maxRecDepth 100000

/-- A state: which take comes, and which each had last. -/
structure Stt where
  n : Nat
  had : List Int
  five : had.length = 5
deriving DecidableEq
def Stt.cells (s : Stt) : List Value := I s.n :: s.had.map I
def Stt.val (s : Stt) : Value := .agg s.cells.toArray
theorem Stt.cells_inj {x y : Stt} (h : x.cells = y.cells) : x = y := by
  obtain ⟨n, l, h1⟩ := x
  obtain ⟨m, k, h2⟩ := y
  simp only [Stt.cells, List.cons.injEq, Value.int.injEq, true_and] at h
  obtain ⟨e1, e2⟩ := h
  have e3 : l = k := by
    have : Function.Injective I := fun a b h => by simpa using h
    exact (List.map_inj_right (fun a b h => this h)).1 e2
  have e1 : n = m := by omega
  subst e1 e3; rfl
def Stt.Ok (s : Stt) : Prop := inR .i64 s.n ∧ ∀ x ∈ s.had, inR .i64 x
theorem u110 : Try.prog.underlying 110 = some (.struct #[{ name := "take", type := 3, offset := 0, embedded := false, tag := "", pkgPath := "palantype/take", byteOffset := 0 }, { name := "had", type := 108, offset := 1, embedded := false, tag := "", pkgPath := "palantype/take", byteOffset := 8 }]) := by kernel_rfl
theorem u108 : Try.prog.underlying 108 = some (.array 5 3) := by kernel_rfl
theorem u3 : Try.prog.underlying 3 = some (.int .i64) := by kernel_rfl
theorem c110 : Try.prog.cellsOf 110 = 6 := by kernel_rfl
theorem c108 : Try.prog.cellsOf 108 = 5 := by kernel_rfl
theorem c3 : Try.prog.cellsOf 3 = 1 := by kernel_rfl
theorem wf_i64 {a : Int} (h : inR .i64 a) : (Lit.int .i64 a).wf = true := by
  simp only [inR] at h
  simp only [Lit.wf, Bool.and_eq_true, decide_eq_true_eq]
  exact h
theorem keyLits_int {D : Nat} {a : Int} (h : inR .i64 a) : Try.prog.keyLits (D + 1) 3 [I a] = some [.int .i64 a] := by
  simp only [Program.keyLits, u3]
  rw [if_pos ⟨trivial, wf_i64 h⟩]
theorem keyOf_five {n a b c d e : Int} (h1 : inR .i64 n) (ha : inR .i64 a) (hb : inR .i64 b) (hc : inR .i64 c) (hd : inR .i64 d) (he : inR .i64 e) : keyOf Try.prog 110 (.agg #[I n, I a, I b, I c, I d, I e]) = some (.string (keyBytes [.int .i64 n, .int .i64 a, .int .i64 b, .int .i64 c, .int .i64 d, .int .i64 e])) := by
  have kt : Try.prog.keyType 110 = true := by kernel_rfl
  obtain ⟨m, hs⟩ : ∃ m, Try.prog.types.size + 1 = m + 3 := by
    have hs : Try.prog.types.size + 1 = (Try.prog.types.size - 2) + 3 := by kernel_rfl
    exact ⟨_, hs⟩
  have hf : (Value.agg #[I n, I a, I b, I c, I d, I e]).formed Try.prog 110 = true := by
    simp only [Value.formed, u110, c110]; rfl
  have hc5 : Try.prog.keyLits (m + 2) 108 [I a, I b, I c, I d, I e] = some [.int .i64 a, .int .i64 b, .int .i64 c, .int .i64 d, .int .i64 e] := by
    unfold Program.keyLits
    simp only [u108]
    rw [if_pos (by rw [c108]; rfl)]
    have : List.range 5 = [0, 1, 2, 3, 4] := rfl
    rw [this]
    simp [c3, keyLits_int ha, keyLits_int hb, keyLits_int hc, keyLits_int hd, keyLits_int he]
  unfold keyOf
  simp only [u110, kt, hf, Bool.and_self, if_true]
  rw [hs]
  unfold Program.keyLits
  simp only [u110]
  rw [if_pos ⟨by rw [c110]; rfl, by kernel_rfl⟩]
  simp [Value.cells, c108, c3, keyLits_int h1, hc5]
theorem stt_keyOf {s : Stt} (h : s.Ok) : ∃ l, keyOf Try.prog 110 s.val = some l := by
  obtain ⟨n, l, h5⟩ := s
  obtain ⟨h1, h2⟩ := h
  simp only at h1 h2
  match l, h5 with
  | [a, b, c, d, e], _ =>
    refine ⟨_, keyOf_five h1 (h2 a (by simp)) (h2 b (by simp)) (h2 c (by simp)) (h2 d (by simp)) (h2 e (by simp))⟩
theorem law110 : WideMaps.KeyLaw Try.prog 110 := deep_law (m := 5) (by decide) (by kernel_rfl) (by kernel_rfl) (by rw [u110])
theorem stt_same (s : Stt) : Instr.sameBits 10000 s.val s.val = true := by
  have : ∀ l : List Value, (∀ v ∈ l, ∃ a, v = I a) → (l.zip l).all (fun (x, y) => Instr.sameBits 9999 x y) = true := by
    intro l h
    induction l with
    | nil => rfl
    | cons x r ih =>
      obtain ⟨a, rfl⟩ := h x (by simp)
      simp only [List.zip_cons_cons, List.all_cons, ih (fun v hv => h v (by simp [hv])), Bool.and_true]
      simp [Instr.sameBits]
  show Instr.sameBits (9999 + 1) (.agg _) (.agg _) = true
  simp only [Instr.sameBits, beq_self_eq_true, Bool.true_and]
  exact this _ (fun v hv => by
    simp only [Stt.cells, List.mem_cons, List.mem_map] at hv
    rcases hv with rfl | ⟨a, _, rfl⟩
    · exact ⟨_, rfl⟩
    · exact ⟨_, rfl⟩)
theorem Stt.val_inj {x y : Stt} (h : x.val = y.val) : x = y := by
  refine Stt.cells_inj ?_
  simp only [Stt.val, Value.agg.injEq] at h
  have := congrArg Array.toList h
  simpa using this
/-- The map holds these states. -/
structure Dead (es : Array MapEntry) (D : List Stt) : Prop where
  eq : es.toList.map (fun e => (e.key, e.val)) = D.map fun s => (s.val, .bool true)
  ok : ∀ s ∈ D, s.Ok
  nd : D.Nodup
theorem Dead.nil : Dead #[] [] := ⟨rfl, (fun s h => by cases h), List.nodup_nil⟩
theorem Dead.keys {es : Array MapEntry} {D : List Stt} (h : Dead es D) : es.toList.map (·.key) = D.map (·.val) := by
  have := congrArg (List.map Prod.fst) h.eq
  simpa [List.map_map, Function.comp_def] using this
theorem Dead.find {es : Array MapEntry} {D : List Stt} (h : Dead es D) {s : Stt} (hs : s.Ok) : (s ∉ D ∧ KeyFind Try.prog 110 s.val es none) ∨ (s ∈ D ∧ ∃ j, KeyFind Try.prog 110 s.val es (some j) ∧ lookV (.bool false) false es (some j) = .bool true ∧ ∀ c, Dead (putE es c s.val (.bool true) (some j)).1 D) := by
  obtain ⟨l, hl⟩ := stt_keyOf hs
  have hmem : ∀ e ∈ es.toList, ∃ t ∈ D, e.key = t.val ∧ e.val = .bool true := fun e he => by
    have : (e.key, e.val) ∈ es.toList.map (fun e => (e.key, e.val)) := List.mem_map.2 ⟨e, he, rfl⟩
    rw [h.eq] at this
    obtain ⟨t, ht, e1⟩ := List.mem_map.1 this
    simp only [Prod.mk.injEq] at e1
    exact ⟨t, ht, e1.1.symm, e1.2.symm⟩
  have hnd : (es.toList.map (·.key)).Nodup := by
    rw [h.keys]
    exact h.nd.map _ (fun a b hab e => hab (Stt.val_inj e))
  rcases keyFind_of law110 hl (stt_same s) (es := es) (fun e he => by obtain ⟨t, ht, e1, _⟩ := hmem e he; rw [e1]; exact stt_keyOf (h.ok t ht)) hnd with ⟨h1, h2⟩ | ⟨j, e, h1, h2, h3⟩
  · refine .inl ⟨fun hin => ?_, h1⟩
    have : s.val ∈ es.toList.map (·.key) := by rw [h.keys]; exact List.mem_map.2 ⟨s, hin, rfl⟩
    obtain ⟨e, he, e1⟩ := List.mem_map.1 this
    exact h2 e he e1
  · have h2' : es.toList[j]? = some e := by simpa using h2
    obtain ⟨t, ht, e1, e2⟩ := hmem e (List.mem_of_getElem? h2')
    have : s = t := Stt.val_inj (h3.symm.trans e1)
    refine .inr ⟨this ▸ ht, j, h1, by simp [lookV, mapAt, h2, e2], fun c => ⟨?_, h.ok, h.nd⟩⟩
    rw [← h.eq]
    simp only [putE]
    apply List.ext_getElem?
    intro i
    simp only [List.getElem?_map, Array.getElem?_toList, Array.getElem?_modify]
    split
    · rename_i hij
      subst hij
      simp [h2, h3, e2]
    · rfl
theorem Dead.put {es : Array MapEntry} {D : List Stt} (h : Dead es D) {s : Stt} (hs : s.Ok) (hn : s ∉ D) {c : Nat} : Dead (putE es c s.val (.bool true) none).1 (D ++ [s]) := by
  refine ⟨?_, fun t ht => ?_, ?_⟩
  · simp only [putE, Array.toList_push, List.map_append, h.eq, List.map_cons, List.map_nil]
  · rcases List.mem_append.1 ht with ht | ht
    · exact h.ok t ht
    · simp at ht; subst ht; exact hs
  · rw [List.nodup_append]
    exact ⟨h.nd, by simp, fun a ha b hb => by simp at hb; subst hb; exact fun e => hn (e ▸ ha)⟩
end Go.Proofs.Ytcmhpndhloplpaa
