/- Layer 3 (plain): what is shown; protected words stay. Layer 3: the law of DraftKept. Layer 3: items compared; shown. Layer 3 (plain): what holds of every sheet; a change that is undone at once; when all changes are undone. Layer 3: steps copied out of a row that is lent; the law of DraftAtOnce. Layer 3: steps copied into an own row; plain. Layer 3: the law of DraftBack. -/
import Derived.Test.YtfppbjfbghaclaaGreatML
import Derived.Test.YtfppbjfbghaclaaGreatMI
import Derived.Test.YtfppbjfbghaclaaGreatMD
set_option linter.unusedSimpArgs false
set_option linter.unusedVariables false
namespace Go.Proofs.YtfppbjfbghaclaaGreat
open Go.Pal Go.RowKit
set_option maxRecDepth 100000
theorem visN (l : List It) : ∀ n, n ≤ l.length → (placesN l n).map (fun i => l.getD i default) = (l.take n).filter (fun y => y.g = 0)
  | 0, _ => by simp [placesN]
  | n + 1, h => by
    have ih := visN l n (by omega)
    have h1 : n < l.length := by omega
    have hgd : l.getD n default = l[n] := by simp [h1]
    rw [placesN_succ, List.take_add_one, List.getElem?_eq_getElem h1, List.filter_append, hgd]
    split
    · rename_i hg
      rw [List.map_append, ih]
      congr 1
      show [l.getD n default] = _
      rw [hgd, Option.toList_some, List.filter_cons, if_pos (by simpa using hg)]; rfl
    · rename_i hg
      rw [ih]
      simp [hg]
def visF (l : List It) : List It := l.filter fun y => y.g = 0
theorem places_vis (l : List It) : (placesF l).map (fun i => l.getD i default) = visF l := by
  rw [placesF, visN l l.length (Nat.le_refl _), List.take_length]; rfl
theorem shown_vis (S : Sh) : shownF S = (visF S.its).map (·.vi) := by rw [← places_vis, shownF, List.map_map]; rfl
theorem play_inv {d : Dr} {I : Sh → Prop} (hI : ∀ {S S' : Sh} {x : Sp}, PosL S → I S → stepF d S x = some S' → I S') : ∀ {steps : List Sp} {S S' : Sh} {i : Nat}, PosL S → I S → playF d S steps i = .inr S' → I S' ∧ PosL S'
  | [], S, S', i, hp, h, e => by cases e; exact ⟨h, hp⟩
  | x :: r, S, S', i, hp, h, e => by
    simp only [playF] at e
    split at e
    · rename_i S1 hs
      exact play_inv hI (posL_step hp hs) (hI hp h hs) e
    · cases e
theorem posL_begin (d : Dr) : PosL (beginS d) := ⟨Int.le_refl _, fun n hn => by cases hn⟩
theorem endF_ok {d : Dr} {steps : List Sp} {S : Sh} (h : endF d steps = .ok S) : validF d = true ∧ steps.length ≤ 80 ∧ playF d (beginS d) steps 0 = .inr S := by
  unfold endF at h
  split at h
  · cases h
  · rename_i hv
    split at h
    · cases h
    · split at h
      · cases h
      · rename_i e; cases h; exact ⟨by simpa using hv, by omega, e⟩
end Go.Proofs.YtfppbjfbghaclaaGreat

namespace Go.Proofs.YtfppbjfbghaclaaGreat
open Go.Pal Go.RowKit
set_option maxRecDepth 100000
theorem ready_iff {d : Dr} {steps : List Sp} : readyF d steps = true ↔ thinF d steps = true ∧ ∃ S, endF d steps = .ok S := by
  rw [readyF, Bool.and_eq_true]
  refine and_congr_right fun _ => ?_
  cases endF d steps <;> simp [okE]
end Go.Proofs.YtfppbjfbghaclaaGreat

namespace Go.Proofs.YtfppbjfbghaclaaGreat
open Go.Pal Go.RowKit
set_option maxRecDepth 100000
instance : DecidableEq Vi := fun a b => decidable_of_iff (a.t = b.t ∧ a.o = b.o ∧ a.m = b.m) (by cases a; cases b; simp)
theorem eqSII_run {P : Program} {t s e : TypeId} (hu : (match P.underlying t with | some (.struct _) => true | _ => false) = true) (hf : (P.fieldsOf t).toList.map (fun f => (f.type, f.offset)) = [(s, 0), (e, 1), (e, 2)]) (hn : (P.fieldsOf t).toList.all (fun f => f.name != "_") = true) (hse : P.underlying s = some .string) (he : P.underlying e = some (.int .i64)) (hzs : szT P s = some 1) (hz : szT P e = some 1)
    (hs : P.stoodInHeld t = false) (w : World) (a a' : ByteArray) (b c b' c' : Int) : (Op.equalIn 10000 t (.agg #[.string a, I b, I c]) (.agg #[.string a', I b', I c'])).run P w = .ok (decide (a = a' ∧ b = b' ∧ c = c')) w := by
  rw [show (10000 : Nat) = 9999 + 1 from rfl, run_equalIn_struct w 9999 t _ _ (struct_of hu) hs]
  generalize (P.fieldsOf t).toList = fs at hf hn
  have hag : aggT P e = some false := by simp [aggT, he]
  have hags : aggT P s = some false := by simp [aggT, hse]
  have hsz := run_sizeOf' (P := P) (W := w) (t := e) (n := 1) hz
  have hgg := run_isAgg' (P := P) (W := w) (t := e) (g := false) hag
  have hszs := run_sizeOf' (P := P) (W := w) (t := s) (n := 1) hzs
  have hggs := run_isAgg' (P := P) (W := w) (t := s) (g := false) hags
  obtain ⟨f1, f2, f3, rfl⟩ : ∃ f1 f2 f3, fs = [f1, f2, f3] := by
    have hl := congrArg List.length hf
    simp only [List.length_map, List.length_cons, List.length_nil] at hl
    match fs, hl with
    | [f1, f2, f3], _ => exact ⟨f1, f2, f3, rfl⟩
  simp only [List.map_cons, List.map_nil, List.cons.injEq, Prod.mk.injEq, and_true] at hf
  obtain ⟨⟨t1, o1⟩, ⟨t2, o2⟩, t3, o3⟩ := hf
  simp only [List.all_cons, List.all_nil, Bool.and_true, Bool.and_eq_true, bne_iff_ne, ne_eq] at hn
  have he1 := fun a b => run_equalIn_int (P := P) w 9998 e .i64 .i64 a b he
  have hs1 := fun a b => run_equalIn_str (P := P) w 9998 s a b hse
  simp only [Op.eqFields, t1, o1, t2, o2, t3, o3, hn.1, hn.2.1, hn.2.2, ne_eq, not_false_eq_true, if_true]
  simp [part, hsz, hgg, hszs, hggs, he1, hs1, Result.andThen]
  by_cases h1 : a = a'
  · subst h1
    by_cases h2 : b = b'
    · subst h2
      by_cases h3 : c = c'
      · subst h3; simp [he1]
      · simp [he1, h3]
    · simp [he1, h2]
  · simp [h1]
theorem pur_neItem (x y : Vi) : ∀ w, ((POp.bin .neq 57).sem [.agg (viE.f x).toArray, .agg (viE.f y).toArray]).run Tryz.prog w = .ok (.bool (!decide (x = y))) w := fun w => by
  have e1 : (POp.bin .neq 57).sem [.agg (viE.f x).toArray, .agg (viE.f y).toArray] = (do eqGuard .neq 57 (.tmp 0) (.tmp 0) (.agg #[.string x.t, I x.o, I x.m]) (.agg #[.string y.t, I y.o, I y.m]); binOp .neq 57 (.agg #[.string x.t, I x.o, I x.m]) (.agg #[.string y.t, I y.o, I y.m])) := rfl
  have e2 : decide (x = y) = decide (x.t = y.t ∧ x.o = y.o ∧ x.m = y.m) := by
    apply decide_eq_decide.2
    cases x; cases y; simp
  rw [e1, e2]
  have hr := eqSII_run (P := Tryz.prog) (t := 57) (s := 9) (e := 3) (by kernel_rfl) (by kernel_rfl) (by kernel_rfl) und9 (by kernel_rfl) (by kernel_rfl) (by kernel_rfl) (by kernel_rfl) w x.t y.t x.o x.m y.o y.m
  have hg : Tryz.prog.eqGuardType Tryz.prog.depth 57 = false := by kernel_rfl
  simp [run_eqGuard_agg w .neq 57 _ _ _ _ hg, run_neq_struct, hr, Result.andThen]
end Go.Proofs.YtfppbjfbghaclaaGreat

namespace Go.Proofs.YtfppbjfbghaclaaGreat
open Go.Pal Go.RowKit
set_option maxRecDepth 100000
theorem playF_app {d : Dr} : ∀ (xs ys : List Sp) (S : Sh) (i : Nat), playF d S (xs ++ ys) i = match playF d S xs i with
    | .inl k => .inl k
    | .inr S' => playF d S' ys (i + xs.length)
  | [], ys, S, i => rfl
  | x :: xs, ys, S, i => by
    show (match stepF d S x with
      | some S' => playF d S' (xs ++ ys) (i + 1)
      | none => .inl i) = match (match stepF d S x with
      | some S' => playF d S' xs (i + 1)
      | none => .inl i) with
      | .inl k => .inl k
      | .inr S' => playF d S' ys (i + (xs.length + 1))
    cases stepF d S x with
    | none => rfl
    | some S1 =>
      have h := playF_app (d := d) xs ys S1 (i + 1)
      rw [show i + 1 + xs.length = i + (xs.length + 1) by omega] at h
      exact h
def It.key (y : It) : ByteArray × Int × Int := (y.t, y.o, y.m)
theorem goneF_key (n : Int) : ∀ (ps : List Nat) (l : List It), (goneF l n ps).map It.key = l.map It.key
  | [], l => rfl
  | p :: ps, l => by
    have e : goneF l n (p :: ps) = goneF (l.set p { l.getD p default with g := n }) n ps := rfl
    rw [e, goneF_key n ps, List.map_set]
    by_cases hp : p < l.length
    · have hgd : l.getD p default = l[p] := by simp [hp]
      rw [hgd]
      have : (l.map It.key)[p]'(by simpa using hp) = It.key l[p] := by simp
      show (l.map It.key).set p (It.key l[p]) = _
      rw [← this, List.set_getElem_self]
    · rw [List.set_eq_of_length_le (by simpa using hp)]
theorem goneF_of (n : Int) : ∀ (ps : List Nat) (l : List It), ∀ y ∈ goneF l n ps, ∃ z ∈ l, y.key = z.key ∧ (y.g = z.g ∨ y.g = n)
  | [], l, y, hy => ⟨y, hy, rfl, .inl rfl⟩
  | p :: ps, l, y, hy => by
    have hy : y ∈ goneF (l.set p { l.getD p default with g := n }) n ps := hy
    obtain ⟨z, hz, h1, h2⟩ := goneF_of n ps _ y hy
    by_cases hp : p < l.length
    · rcases List.mem_or_eq_of_mem_set hz with h3 | rfl
      · exact ⟨z, h3, h1, h2⟩
      · have hgd : l.getD p default = l[p] := by simp [hp]
        refine ⟨l[p], List.getElem_mem hp, ?_, .inr ?_⟩
        · rw [h1, hgd]; rfl
        · rcases h2 with h2 | h2
          · exact h2
          · exact h2
    · rw [List.set_eq_of_length_le (by omega)] at hz
      exact ⟨z, hz, h1, h2⟩
theorem backF_key (n : Int) (y : It) : (backF n y).key = y.key := by unfold backF; split <;> rfl
theorem backF_m (n : Int) (y : It) : (backF n y).m = y.m := by unfold backF; split <;> rfl
theorem key_m {y z : It} (h : y.key = z.key) : y.m = z.m := congrArg (fun k => k.2.2) h
def baseF (l : List It) : List (ByteArray × Int × Int) := (l.map It.key).filter fun k => k.2.2 = 0
structure Rch (d : Dr) (S : Sh) : Prop where
  wf : Inv d.ws.length S
  pos : PosL S
  le : ∀ n ∈ S.live, n ≤ S.ch
  inc : S.live.Pairwise (· < ·)
  gl : ∀ y ∈ S.its, y.g = 0 ∨ y.g ∈ S.live
  ml : ∀ y ∈ S.its, y.m = 0 ∨ y.m ∈ S.live
  base : baseF S.its = (List.range d.ws.length).map fun (i : Nat) => ((d.ws.getD i default).t, (i : Int), 0)
theorem rch_begin (d : Dr) : Rch d (beginS d) := by
  refine ⟨inv_begin d, posL_begin d, fun n hn => (by cases hn), List.Pairwise.nil, fun y hy => ?_, fun y hy => ?_, ?_⟩
  · obtain ⟨i, hi, rfl⟩ := List.mem_map.1 hy; exact .inl rfl
  · obtain ⟨i, hi, rfl⟩ := List.mem_map.1 hy; exact .inl rfl
  · show ((List.map _ _).map It.key).filter _ = _
    rw [List.map_map, List.filter_eq_self.2]
    · rfl
    · intro k hk
      obtain ⟨i, hi, rfl⟩ := List.mem_map.1 hk
      rfl
theorem baseF_app (l r : List It) : baseF (l ++ r) = baseF l ++ baseF r := by rw [baseF, List.map_append, List.filter_append]; rfl
theorem rch_step {d : Dr} {S S' : Sh} {x : Sp} (h : Rch d S) (hs : stepF d S x = some S') : Rch d S' := by
  refine ⟨inv_step h.pos.1 h.wf hs, posL_step h.pos hs, ?_, ?_, ?_, ?_, ?_⟩ <;> unfold stepF at hs <;> split at hs
  · unfold changeF at hs
    split at hs
    · cases hs
      intro n hn
      show n ≤ S.ch + 1
      rcases List.mem_append.1 hn with hn | hn
      · have := h.le n hn; omega
      · have : n = S.ch + 1 := by simpa using hn
        omega
    · cases hs
  · unfold undoF at hs
    split at hs
    · cases hs
      exact fun n hn => h.le n (List.mem_filter.1 hn).1
    · cases hs
  · unfold changeF at hs
    split at hs
    · cases hs
      refine List.pairwise_append.2 ⟨h.inc, by simp, fun a ha b hb => ?_⟩
      have : b = S.ch + 1 := by simpa using hb
      have := h.le a ha
      omega
    · cases hs
  · unfold undoF at hs
    split at hs
    · cases hs; exact h.inc.filter _
    · cases hs
  · unfold changeF at hs
    split at hs
    · cases hs
      intro y hy
      show y.g = 0 ∨ y.g ∈ S.live ++ [S.ch + 1]
      have old : y ∈ goneF S.its (S.ch + 1) (cutF S.its x) → y.g = 0 ∨ y.g ∈ S.live ++ [S.ch + 1] := fun hm => by
        obtain ⟨z, hz, _, h2⟩ := goneF_of _ _ _ y hm
        rcases h2 with h2 | h2
        · rw [h2]; exact (h.gl z hz).imp id fun h3 => List.mem_append_left _ h3
        · rw [h2]; exact .inr (by simp)
      rcases List.mem_append.1 hy with hy | hy
      · rcases List.mem_append.1 hy with hy | hy
        · exact old (List.mem_of_mem_take hy)
        · obtain ⟨t, _, rfl⟩ := List.mem_map.1 hy; exact .inl rfl
      · exact old (List.mem_of_mem_drop hy)
    · cases hs
  · unfold undoF at hs
    split at hs
    · cases hs
      intro y hy
      obtain ⟨z, hz, rfl⟩ := List.mem_map.1 hy
      show (backF x.u z).g = 0 ∨ (backF x.u z).g ∈ S.live.filter (· != x.u)
      unfold backF
      split
      · exact .inl rfl
      · rename_i hne
        rcases h.gl z (List.mem_filter.1 hz).1 with h3 | h3
        · exact .inl h3
        · exact .inr (List.mem_filter.2 ⟨h3, by simpa using hne⟩)
    · cases hs
  · unfold changeF at hs
    split at hs
    · cases hs
      intro y hy
      show y.m = 0 ∨ y.m ∈ S.live ++ [S.ch + 1]
      have old : y ∈ goneF S.its (S.ch + 1) (cutF S.its x) → y.m = 0 ∨ y.m ∈ S.live ++ [S.ch + 1] := fun hm => by
        obtain ⟨z, hz, h1, _⟩ := goneF_of _ _ _ y hm
        rw [key_m h1]; exact (h.ml z hz).imp id fun h3 => List.mem_append_left _ h3
      rcases List.mem_append.1 hy with hy | hy
      · rcases List.mem_append.1 hy with hy | hy
        · exact old (List.mem_of_mem_take hy)
        · obtain ⟨t, _, rfl⟩ := List.mem_map.1 hy; exact .inr (by simp)
      · exact old (List.mem_of_mem_drop hy)
    · cases hs
  · unfold undoF at hs
    split at hs
    · cases hs
      intro y hy
      obtain ⟨z, hz, rfl⟩ := List.mem_map.1 hy
      obtain ⟨hz1, hz2⟩ := List.mem_filter.1 hz
      show (backF x.u z).m = 0 ∨ (backF x.u z).m ∈ S.live.filter (· != x.u)
      rw [backF_m]
      rcases h.ml z hz1 with h3 | h3
      · exact .inl h3
      · exact .inr (List.mem_filter.2 ⟨h3, hz2⟩)
    · cases hs
  · unfold changeF at hs
    split at hs
    · cases hs
      show baseF (insF (goneF S.its (S.ch + 1) (cutF S.its x)) (placeF S.its x) (putF (S.ch + 1) x.put)) = _
      have hput : baseF (putF (S.ch + 1) x.put) = [] := by
        rw [baseF, List.filter_eq_nil_iff]
        intro k hk
        simp only [putF, List.map_map, List.mem_map, Function.comp] at hk
        obtain ⟨_, _, rfl⟩ := hk
        have := h.pos.1
        show ¬ decide (S.ch + 1 = 0) = true
        rw [decide_eq_false (by omega)]; decide
      rw [insF, baseF_app, baseF_app, hput, List.append_nil, ← baseF_app, List.take_append_drop, baseF, goneF_key]
      exact h.base
    · cases hs
  · unfold undoF at hs
    split at hs
    · rename_i hu
      cases hs
      have hu1 : 1 ≤ x.u := by
        unfold undoableF at hu
        exact h.pos.2 _ (of_decide_eq_true (Bool.and_eq_true_iff.1 hu).1)
      show baseF ((S.its.filter fun y => y.m != x.u).map (backF x.u)) = _
      rw [← h.base]
      have key : ∀ l : List It, baseF ((l.filter fun y => y.m != x.u).map (backF x.u)) = baseF l := by
        intro l
        rw [baseF, baseF, List.map_map]
        have : (It.key ∘ backF x.u) = It.key := funext fun y => backF_key x.u y
        rw [this, List.filter_map, List.filter_map, List.filter_filter]
        congr 1
        apply List.filter_congr
        intro y _
        simp only [Function.comp, It.key]
        by_cases h0 : y.m = 0
        · simp [h0]; omega
        · simp [h0]
      exact key S.its
    · cases hs
theorem rch_play {d : Dr} {steps : List Sp} {S S' : Sh} {i : Nat} (h : Rch d S) (e : playF d S steps i = .inr S') : Rch d S' :=
  (play_inv (I := Rch d) (fun _ h hs => rch_step h hs) h.pos h e).1
theorem rch_end {d : Dr} {steps : List Sp} {S : Sh} (h : endF d steps = .ok S) : Rch d S := rch_play (rch_begin d) (endF_ok h).2.2
theorem endF_app {d : Dr} {steps more : List Sp} {S : Sh} (h : endF d steps = .ok S) (hl : steps.length + more.length ≤ 80) : endF d (steps ++ more) = match playF d S more steps.length with
    | .inl k => .fail k
    | .inr S' => .ok S' := by
  obtain ⟨hv, _, hp⟩ := endF_ok h
  unfold endF
  rw [if_neg (by rw [hv]; decide), if_neg (by rw [List.length_append]; omega), playF_app, hp]
  simp only [Nat.zero_add]
  cases playF d S more steps.length <;> rfl
/-! ### All changes are undone -/
theorem last_undoable {d : Dr} {S : Sh} (h : Rch d S) {l : List Int} {n : Int} (hl : S.live = l ++ [n]) : undoableF S n = true := by
  unfold undoableF
  rw [Bool.and_eq_true, List.all_eq_true]
  refine ⟨decide_eq_true (by rw [hl]; simp), fun y hy => ?_⟩
  by_cases hm : y.m = n
  · rcases h.gl y hy with hg | hg
    · simp [hg]
    · exfalso
      have h1 := (h.wf y hy).2.1
      have h2 := h.pos.2 _ hg
      have h3 := h.inc
      rw [hl] at hg h3
      rcases List.mem_append.1 hg with h4 | h4
      · have := (List.pairwise_append.1 h3).2.2 _ h4 n (by simp)
        omega
      · have : y.g = n := by simpa using h4
        omega
  · simp [hm]
theorem undos_last {d : Dr} {S : Sh} (h : Rch d S) (hne : S.live ≠ []) : undosF S ≠ [] ∧ (undosF S).getLast? = S.live.getLast? := by
  obtain ⟨l, n, hl⟩ : ∃ l n, S.live = l ++ [n] := ⟨S.live.dropLast, S.live.getLast hne, (List.dropLast_concat_getLast hne).symm⟩
  have hu := last_undoable h hl
  have : undosF S = (l.filter fun n => undoableF S n) ++ [n] := by
    rw [undosF, hl, List.filter_append]
    congr 1
    simp [hu]
  rw [this, hl]
  simp
theorem undo_len {d : Dr} {S S' : Sh} {n : Int} (h : Rch d S) (hs : undoF S n = some S') : S'.live.length + 1 = S.live.length := by
  unfold undoF at hs
  split at hs
  · rename_i hu
    cases hs
    have hm : n ∈ S.live := by
      unfold undoableF at hu
      exact of_decide_eq_true (Bool.and_eq_true_iff.1 hu).1
    have key : ∀ l : List Int, l.Pairwise (· < ·) → n ∈ l → (l.filter (· != n)).length + 1 = l.length := by
      intro l
      induction l with
      | nil => intro _ h; cases h
      | cons a r ih =>
        intro hp hm
        obtain ⟨h1, h2⟩ := List.pairwise_cons.1 hp
        rw [List.filter_cons]
        by_cases ha : a = n
        · subst ha
          rw [if_neg (by simp), List.filter_eq_self.2 fun b hb => by have := h1 b hb; simp; omega]
          rfl
        · rw [if_pos (by simpa using ha), List.length_cons, ih h2 (by
            rcases List.mem_cons.1 hm with e | e
            · exact absurd e.symm ha
            · exact e)]
          rfl
    exact key S.live h.inc hm
  · cases hs
theorem shown_all {d : Dr} {S : Sh} (h : Rch d S) (hl : S.live = []) : shownF S = (List.range d.ws.length).map fun (i : Nat) => ⟨(d.ws.getD i default).t, (i : Int), 0⟩ := by
  have hg : ∀ y ∈ S.its, y.g = 0 := fun y hy => by
    rcases h.gl y hy with h1 | h1
    · exact h1
    · rw [hl] at h1; cases h1
  have hm : ∀ y ∈ S.its, y.m = 0 := fun y hy => by
    rcases h.ml y hy with h1 | h1
    · exact h1
    · rw [hl] at h1; cases h1
  have hv : visF S.its = S.its := List.filter_eq_self.2 fun y hy => by simpa using hg y hy
  have hb := h.base
  rw [baseF, List.filter_eq_self.2 (fun k hk => by
    obtain ⟨y, hy, rfl⟩ := List.mem_map.1 hk
    have := hm y hy
    exact decide_eq_true this)] at hb
  rw [shown_vis, hv]
  have e1 : S.its.map (·.vi) = (S.its.map It.key).map fun k => (⟨k.1, k.2.1, k.2.2⟩ : Vi) := by rw [List.map_map]; rfl
  rw [e1, hb, List.map_map]; rfl
end Go.Proofs.YtfppbjfbghaclaaGreat

namespace Go.Proofs.YtfppbjfbghaclaaGreat
open Go.Pal Go.RowKit
set_option maxRecDepth 100000
end Go.Proofs.YtfppbjfbghaclaaGreat

namespace Go.Proofs.YtfppbjfbghaclaaGreat
open Go.Pal Go.RowKit
set_option maxRecDepth 100000
def RowSp (G : Hp) (l : List Sp) (n : Nat) (vs : List Value) : Prop := n = l.length ∧ vs.length = n * 4 ∧ ∀ i (h : i < l.length), ((vs.drop (i * 4)).take 4).length = 4 ∧ SpC G ((vs.drop (i * 4)).take 4) l[i]
theorem RowSp.grow {G G' : Hp} {l : List Sp} {n : Nat} {vs : List Value} (hg : Grow G G') (h : RowSp G l n vs) : RowSp G' l n vs := ⟨h.1, h.2.1, fun i hi => ⟨(h.2.2 i hi).1, SpC.grow _ _ hg (h.2.2 i hi).2⟩⟩
theorem RowSp.snoc {G : Hp} {l : List Sp} {n : Nat} {vs us : List Value} {x : Sp} (h : RowSp G l n vs) (hu : us.length = 4) (hx : SpC G us x) : RowSp G (l ++ [x]) (n + 1) (vs ++ us) := by
  obtain ⟨rfl, h2, h3⟩ := h
  exact ⟨by simp, by rw [List.length_append, h2, hu]; omega, spv_snoc h2 h3 hu hx⟩
theorem RowSp.pub {G : Hp} {a : Option Addr} {l : List Sp} {n c : Nat} {vs : List Value} (h : RowSp G l n vs) (hp : PubRow G a n c vs) (hb : n ≤ 1000000) : spsRd.R G (.slice a n c) l :=
  ⟨_, _, _, rfl, SlR.ofPub hp h.1.symm h.2.2, by unfold maxLen; omega⟩
theorem steps18o (l : List Sp) (hb : l.length ≤ 100000) (hf : FineS l) : Sound Tryz.prog 18 id (.own 76 4 (fun args G => ∃ v, args = [v] ∧ spsRd.R G v l) fun _ n vs G => RowSp G l n vs) := by
  refine comp18.own (Tab.cons 46 _ texts46 body46 (Tab.nil _)) (fun args G h => ?_) (fun args n vs G G' hg h => h.grow hg) (fun args G h => ?_)
  · obtain ⟨v, rfl, _⟩ := h; simp
  · obtain ⟨v, rfl, ⟨a, n, c, rfl, hl, hn⟩⟩ := h
    have hlen := hl.len
    (conv => whnf)
    refine LoopP.of { α := Nat × Nat × List Value, fr := fun x => [(0, .v (.slice a n c)), (3, .c (.row 1 x.2.1)), (4, .v (I x.1))], H := fun x => [(1, .row none x.2.1 x.2.2 76 4)], ok := fun x G => x.1 ≤ l.length ∧ RowSp G (l.take x.1) x.2.1 x.2.2, m := fun x => l.length - x.1 }
      (0, 0, []) (HeadP.of [(1, none)] ⟨rfl, rfl, rfl, trivial⟩ ⟨rfl, trivial⟩) ⟨Nat.zero_le _, rfl, rfl, fun i h => absurd h (by simp)⟩ (fun _ => ⟨rfl, rfl⟩) (fun x G2 hg2 hx => W.mk ?_)
    obtain ⟨i, m, vs⟩ := x
    obtain ⟨hi, hr⟩ := hx
    dsimp only at hi hr
    dsimp only
    have hm : m = i := by rw [hr.1, List.length_take]; omega
    (conv => whnf)
    refine IteP.mk (fun hlt => W.mk ?_) (fun hge => W.mk ?_) <;> (conv => whnf)
    · have h1 : i < l.length := by omega
      obtain ⟨cs, c1, c2, c3⟩ := (SlR.grow (G := G) (G' := G2) (fun cs x h => SpC.grow cs x hg2 h) hl hg2).at_ i h1
      have hfi := hf _ (List.getElem_mem h1)
      have htk : l.take (i + 1) = l.take i ++ [l[i]] := by rw [List.take_add_one, List.getElem?_eq_getElem h1]; rfl
      generalize l[i] = x at c3 hfi htk
      obtain ⟨pv, rfl, hp⟩ := id c3
      obtain ⟨pa, pn, pc, rfl, hpl, hpn⟩ := id hp
      repeat' (first | (refine ob ?_ ?_; (first | trivial | omega | (simp only [inR]; omega) | exact ble (by rfl) | exact SlR.some ‹_› (by omega)); (conv => whnf)) | (first | (refine ra ‹_› (by rfl) ?_; (conv => whnf)) | (refine rb ‹_› (by rfl) ?_; (conv => whnf)) | (refine rc ‹_› (by rfl) ?_; (conv => whnf)) | (refine rd ‹_› (by rfl) ?_; (conv => whnf))))
      refine RelP.g (ok1 (slRd strE) fun l => l.length ≤ 100000) (x := x.put) ⟨_, rfl, hp, by show x.put.length ≤ _; omega⟩ (Grow.refl _) (fun v G3 hg3 hq => W.mk ?_)
      obtain ⟨ra, rn, rc, rfl, _, _⟩ := id hq
      (conv => whnf)
      repeat' (first | (refine ob ?_ ?_; (first | trivial | omega | (simp only [inR]; omega) | exact ble (by rfl) | exact SlR.some ‹_› (by omega)); (conv => whnf)) | (first | (refine ra ‹_› (by rfl) ?_; (conv => whnf)) | (refine rb ‹_› (by rfl) ?_; (conv => whnf)) | (refine rc ‹_› (by rfl) ?_; (conv => whnf)) | (refine rd ‹_› (by rfl) ?_; (conv => whnf))))
      have hnx := (hr.grow hg3).snoc (x := x) (us := [I x.u, I x.a, I x.c, .slice ra rn rc]) rfl ⟨_, rfl, hq⟩
      rw [← htk] at hnx
      exact RoundP.of (i + 1, m + 1, _) (HeadP.of [(1, some 31)] ⟨rfl, rfl, rfl, trivial⟩ ⟨rfl, trivial⟩) ⟨h1, hnx⟩ (by show l.length - (i + 1) < l.length - i; omega)
    · have : i = l.length := by omega
      subst this
      rw [List.take_length] at hr
      exact OwnFin.mk ⟨rfl, rfl, rfl, hr⟩
def plainL (d : Dr) : List Vi := (List.range d.ws.length).map fun (i : Nat) => ⟨(d.ws.getD i default).t, (i : Int), 0⟩
set_option maxHeartbeats 1000000 in
theorem plain36 : Sound Tryz.prog 36 id (gsca (args2 drRd (slRd viE) fun _ _ => True) fun x v => v = .bool (decide (x.2 = plainL x.1))) := by
  refine comp36.gsca (Tab.nil _) (fun args G s h => ?_) (fun args G x h => ?_)
  · obtain ⟨u, v, rfl, _⟩ := h; simp
  · obtain ⟨d, q⟩ := x
    obtain ⟨_, _, rfl, ⟨w, k, rfl, ⟨wa, wn, wc, rfl, hwl, hwn⟩, ⟨ka, kn, kc, rfl, _, _⟩⟩, ⟨a, n, c, rfl, hq, hn⟩, _⟩ := h
    dsimp only at hwl hq
    have hqlen := hq.len
    have hwlen := hwl.len
    have hpl : (plainL d).length = wn := by rw [plainL, List.length_map, List.length_range, hwlen]
    dsimp only
    (conv => whnf)
    refine IteP.mk (fun h0 => W.mk ?_) (fun h0 => W.mk ?_) <;> (conv => whnf)
    rotate_left
    · refine FinP.mk (congrArg Value.bool ?_)
      rw [decide_eq_false (fun e => h0 (by subst e; omega))]
    refine LoopP.of { α := Nat, fr := fun x => [(1, .v (.slice a n c)), (2, .c (.ptr 0 0)), (5, .v (I x))], H := fun _ => [(0, .cells .anon [.val (.slice wa wn wc), .val (.slice ka kn kc)] 25)], ok := fun x _ => x ≤ q.length ∧ (q = plainL d ↔ q.drop x = (plainL d).drop x), m := fun x => q.length - x }
      0 (HeadP.of [] ⟨rfl, rfl, rfl, trivial⟩ ⟨rfl, trivial⟩) ⟨Nat.zero_le _, Iff.rfl⟩ (fun _ => ⟨rfl, rfl⟩) (fun (x : Nat) G' hG hx => W.mk ?_)
    obtain ⟨hi, hx⟩ := hx
    (conv => whnf)
    refine IteP.mk (fun hlt => W.mk ?_) (fun hge => W.mk ?_) <;> (conv => whnf)
    · have hlt1 : x < q.length := by omega
      have hlt2 : x < (plainL d).length := by omega
      have hlt3 : x < d.ws.length := by omega
      have hcq := (SlR.grow (G := G) (G' := G') (fun _ _ h => h) hq hG).el hlt1
      have hcw := (SlR.grow (G := G) (G' := G') (fun _ _ h => h) hwl hG).el hlt3
      have hsx : (plainL d)[x] = ⟨d.ws[x].t, (x : Int), 0⟩ := by simp [plainL, hlt3]
      rw [List.drop_eq_getElem_cons hlt1, List.drop_eq_getElem_cons hlt2, List.cons.injEq, hsx] at hx
      generalize d.ws[x] = y at hcw hx
      generalize q[x] = z at hcq hx
      repeat' (first | (refine ob ?_ ?_; (first | trivial | omega | (simp only [inR]; omega) | exact ble (by rfl) | exact SlR.some ‹_› (by omega)); (conv => whnf)) | (first | (refine ra ‹_› (by rfl) ?_; (conv => whnf)) | (refine rb ‹_› (by rfl) ?_; (conv => whnf)) | (refine rc ‹_› (by rfl) ?_; (conv => whnf)) | (refine rd ‹_› (by rfl) ?_; (conv => whnf))))
      refine PurP.of _ (pur_neItem z ⟨y.t, (x : Int), 0⟩) (W.mk ?_)
      (conv => whnf)
      refine ForkP.mk (fun h3 => W.mk ?_) (fun h3 => W.mk ?_) <;> (conv => whnf)
      · refine FinP.mk (congrArg Value.bool ?_)
        rw [decide_eq_false (fun e => by have := (hx.1 e).1; simp [this] at h3)]
      · repeat' (refine ob ?_ ?_; (first | trivial | omega | (simp only [inR]; omega) | exact ble (by rfl) | exact SlR.some ‹_› (by omega)); (conv => whnf))
        exact RoundP.of (x + 1) (HeadP.of [] ⟨rfl, rfl, rfl, trivial⟩ ⟨rfl, trivial⟩) ⟨hlt1, by rw [hx]; exact ⟨fun h => h.2, fun h => ⟨by simpa using h3, h⟩⟩⟩ (by simp only; omega)
    · refine FinP.mk (congrArg Value.bool ?_)
      have : q = plainL d := hx.2 (by rw [List.drop_eq_nil_of_le (by omega), List.drop_eq_nil_of_le (by omega)])
      rw [decide_eq_true this]
end Go.Proofs.YtfppbjfbghaclaaGreat

namespace Go.Proofs.YtfppbjfbghaclaaGreat
open Go.Pal Go.RowKit
set_option maxRecDepth 100000
abbrev lawM (T : Tab Tryz.prog) : Tab Tryz.prog := Tab.cons 15 _ awake15 body15 (Tab.cons 25 _ ready25 body25 (Tab.cons 17 _ draft17 body17 (Tab.cons 26 _ play26 body26 T)))
theorem endF_cnt {d : Dr} {steps : List Sp} {S : Sh} (h : endF d steps = .ok S) : S.cnt steps.length := by
  obtain ⟨hv, _, hp⟩ := endF_ok h
  have := cnt_play (cnt_begin (valid_ws hv)) hp
  rwa [Nat.zero_add] at this
theorem back_step {d : Dr} {all : List Sp} {S : Sh} {n : Int} (h : endF d all = .ok S) (hl : all.length + 1 ≤ 80) (hn : n ∈ undosF S) : ∃ S', endF d (all ++ [⟨n, 0, 0, []⟩]) = .ok S' ∧ S'.live.length + 1 = S.live.length := by
  have hr := rch_end h
  obtain ⟨hn1, hn2⟩ := List.mem_filter.1 hn
  have h0 := hr.pos.2 _ hn1
  have he := endF_app (more := [⟨n, 0, 0, []⟩]) h hl
  obtain ⟨S', hS'⟩ : ∃ S', undoF S n = some S' := by unfold undoF; rw [if_pos hn2]; exact ⟨_, rfl⟩
  have hst : stepF d S ⟨n, 0, 0, []⟩ = some S' := by
    unfold stepF
    rw [if_neg (by show ¬ n = 0; omega)]
    exact hS'
  rw [playF, hst] at he
  exact ⟨S', he, undo_len hr hS'⟩
set_option maxHeartbeats 8000000 in
theorem law11 : Sound Tryz.prog 11 id (gsca (args3 duRd suRd u8sRd fun _ _ l => ∀ n ∈ l, 0 ≤ n ∧ n ≤ 255) fun _ v => v = .bool true) := by
  refine comp11.gsca (lawM (Tab.cons 34 _ undoable34 body34 (Tab.cons 36 _ plain36 body36 (Tab.nil _)))) (fun args G s h => ?_) (fun args G x h => ?_)
  · obtain ⟨u, v, w, rfl, _⟩ := h; simp
  · obtain ⟨d, steps, words⟩ := x
    obtain ⟨_, _, _, rfl, hdu, hsu, hwds, hw8⟩ := h
    dsimp only at hdu hsu hwds hw8
    obtain ⟨w, k, rfl, hw, hk⟩ := id hdu
    obtain ⟨wa, wn, wc, rfl, hwl, _⟩ := id hw
    obtain ⟨ka, kn, kc, rfl, hkl, _⟩ := id hk
    obtain ⟨a, n, c, rfl, hst, hn⟩ := id hsu
    obtain ⟨ea, en, ec, rfl, hel, hen⟩ := id hwds
    have hlen := hst.len
    have helen := hel.len
    (conv => whnf)
    refine IteP.mk (fun h40 => W.mk ?_) (fun h40 => W.mk ?_) <;> (conv => whnf)
    · (refine ScaP.g okU (G := fun _ => none) (x := ()) rfl (fun v hv => W.mk ?_); subst hv; (conv => whnf); refine ForkP.mk (fun _ => W.mk ?_) (fun h => by cases h); (conv => whnf); exact FinP.mk rfl)
    refine ScaP.g (ok2 duRd suRd fun _ _ => True) (x := (d, steps)) ⟨_, _, rfl, hdu, hsu, trivial⟩ (fun v hv => W.mk ?_)
    subst hv
    dsimp only
    (conv => whnf)
    refine ForkP.mk (fun ht => W.mk ?_) (fun ht => W.mk ?_) <;> (conv => whnf)
    rotate_left
    · (refine ScaP.g okU (G := fun _ => none) (x := ()) rfl (fun v hv => W.mk ?_); subst hv; (conv => whnf); refine ForkP.mk (fun _ => W.mk ?_) (fun h => by cases h); (conv => whnf); exact FinP.mk rfl)
    obtain ⟨hthin, S, hS⟩ := ready_iff.1 ht
    obtain ⟨t1, t2, t3, t4, t5⟩ := thin_iff.1 hthin
    have hdr := thin_dr hthin hdu
    have hsr := thin_sps hthin hsu
    have hcnt := endF_cnt hS
    have hs40 : steps.length ≤ 40 := by omega
    refine CallN.mk ⟨_, steps18o steps (by omega) (thin_fine hthin), body18, W.mk ?_⟩
    (conv => whnf)
    refine OwnP.mk ⟨_, rfl, hsr⟩ (fun n1 vs1 G1 hg1 hrow1 => W.mk ?_)
    (conv => whnf)
    refine RelP.g (ok1 drRd fun d => d.ws.length ≤ 100000 ∧ d.ks.length ≤ 100000) (x := d) ⟨_, rfl, drRd.grow hg1 hdr, by omega, by omega⟩ (Grow.refl _) (fun v G2 hg2 hq2 => W.mk ?_)
    obtain ⟨_, _, rfl, ⟨_, _, _, rfl, _, _⟩, ⟨_, _, _, rfl, _, _⟩⟩ := id hq2
    (conv => whnf)
    refine CallN.mk ⟨_, steps18, body18, W.mk ?_⟩
    (conv => whnf)
    refine RelP.g (ok1 spsRd fun l => l.length ≤ 100000 ∧ FineS l) (x := steps) ⟨_, rfl, spsRd.grow (hg1.trans hg2) hsr, by omega, thin_fine hthin⟩ (Grow.refl _) (fun v G3 hg3 hq3 => W.mk ?_)
    obtain ⟨_, _, _, rfl, _, _⟩ := id hq3
    (conv => whnf)
    refine RelP.g (ok2 drRd spsRd fun _ _ => True) (x := (d, steps)) ⟨_, _, rfl, drRd.grow hg3 hq2, hq3, trivial⟩ (Grow.refl _) (fun v G4 hg4 hq => W.mk ?_)
    unfold showR at hq
    dsimp only at hq
    rw [hS] at hq
    obtain ⟨xa, xb, rfl, hx1, hx2⟩ := hq
    obtain ⟨la, ln, lc, rfl, hl, hln⟩ := id hx1
    obtain ⟨va, vn, vc, rfl, hvl, _⟩ := id hx2
    have hvlen := hvl.len
    have hG4 := hg1.trans (hg2.trans (hg3.trans hg4))
    have hl40 := hcnt.2.1
    (conv => whnf)
    (refine IteP.mk (fun _ => W.mk ?_) (fun _ => W.mk ?_) <;> first | (exfalso; omega) | (conv => whnf))
    (refine IteP.mk (fun _ => W.mk ?_) (fun _ => W.mk ?_) <;> first | (exfalso; omega) | (conv => whnf))
    refine LoopP.of { α := Nat × List Sp × Sh × (Option Addr × Nat × Nat) × Nat × List Value, fr := fun x => [(2, .v (.slice ea en ec)), (3, .c (.ptr 0 0)), (7, .c (.row 1 x.2.2.2.2.1)), (9, .v (.slice x.2.2.2.1.1 x.2.2.2.1.2.1 x.2.2.2.1.2.2)), (12, .v (I x.1))], H := fun x => [(0, .cells .anon [.val (.slice wa wn wc), .val (.slice ka kn kc)] 25), (1, .row none x.2.2.2.2.1 x.2.2.2.2.2 76 4)], ok := fun x G => x.1 = x.2.1.length ∧ x.1 + x.2.2.1.live.length ≤ 40 ∧ endF d (steps ++ x.2.1) = .ok x.2.2.1 ∧ FineS (steps ++ x.2.1) ∧ SlV intE G (.slice x.2.2.2.1.1 x.2.2.2.1.2.1 x.2.2.2.1.2.2) x.2.2.1.live ∧ RowSp G (steps ++ x.2.1) x.2.2.2.2.1 x.2.2.2.2.2, m := fun x => x.2.2.1.live.length }
      (0, [], S, (va, vn, vc), n1, vs1) (HeadP.of [(1, some 14)] ⟨rfl, rfl, rfl, rfl, rfl, trivial⟩ ⟨rfl, rfl, trivial⟩) ⟨rfl, by show 0 + S.live.length ≤ 40; omega, by rw [List.append_nil]; exact hS, by rw [List.append_nil]; exact thin_fine hthin, hx2, by rw [List.append_nil]; exact hrow1.grow (hg2.trans (hg3.trans hg4))⟩ (fun _ => ⟨rfl, rfl⟩) (fun x G5 hg5 hx => W.mk ?_)
    obtain ⟨i, us, S1, ⟨ba, bn, bc⟩, m, vs⟩ := x
    obtain ⟨hi, h40b, hS1, hf1, hlv, hrow⟩ := hx
    dsimp only at hi h40b hS1 hf1 hlv hrow
    obtain ⟨_, _, _, e, hbl, _⟩ := id hlv
    cases e
    have hblen := hbl.len
    have hmm := hrow.1
    have hal : (steps ++ us).length ≤ 79 ∨ S1.live.length = 0 := by rw [List.length_append]; omega
    have hdr5 := drRd.grow (hG4.trans hg5) hdr
    have hrch := rch_end hS1
    dsimp only
    (conv => whnf)
    refine IteP.mk (fun hlt => W.mk ?_) (fun hge => W.mk ?_) <;> (conv => whnf)
    · refine RelP.g (ok1 drRd fun d => d.ws.length ≤ 100000 ∧ d.ks.length ≤ 100000) (x := d) ⟨_, rfl, hdr5, by omega, by omega⟩ (Grow.refl _) (fun v G6 hg6 hq6 => W.mk ?_)
      obtain ⟨_, _, rfl, ⟨_, _, _, rfl, _, _⟩, ⟨_, _, _, rfl, _, _⟩⟩ := id hq6
      have hm80 : m ≤ 80 := by rw [hmm, List.length_append]; omega
      (conv => whnf)
      repeat' (refine ob ?_ ?_; (first | trivial | omega | (simp only [inR]; omega) | exact ble (by rfl) | exact SlR.some ‹_› (by omega)); (conv => whnf))
      refine PubP.mk (fun ga gc G7 hg7 hp7 => W.mk ?_)
      have hall7 := ((hrow.grow hg6).grow hg7).pub hp7 (by omega)
      (conv => whnf)
      refine RelP.g (ok2 drRd spsRd fun _ _ => True) (x := (d, steps ++ us)) ⟨_, _, rfl, drRd.grow hg7 hq6, hall7, trivial⟩ (Grow.refl _) (fun v G8 hg8 hq => W.mk ?_)
      unfold undoR at hq
      dsimp only at hq
      rw [hS1] at hq
      obtain ⟨u, rfl, hu⟩ := hq
      obtain ⟨ua, un, uc, rfl, hul, _⟩ := id hu
      have hulen := hul.len
      have hne : S1.live ≠ [] := fun e => by rw [e] at hblen; simp at hblen; omega
      obtain ⟨q1, q2⟩ := undos_last hrch hne
      have hun : 0 < un := by
        rw [← hulen]
        exact List.length_pos_iff.2 q1
      (conv => whnf)
      (refine IteP.mk (fun _ => W.mk ?_) (fun _ => W.mk ?_) <;> first | (exfalso; omega) | (conv => whnf))
      (refine IteP.mk (fun _ => W.mk ?_) (fun _ => W.mk ?_) <;> first | (exfalso; omega) | (conv => whnf))
      have hlu : (undosF S1).length - 1 < (undosF S1).length := by omega
      have hll : S1.live.length - 1 < S1.live.length := by omega
      rw [List.getLast?_eq_getElem?, List.getLast?_eq_getElem?, List.getElem?_eq_getElem hlu, List.getElem?_eq_getElem hll] at q2
      have q3 := Option.some.inj q2
      have hcu := hul.el hlu
      have hcb := (SlR.grow (G := G5) (G' := G8) (fun _ _ h => h) hbl (hg6.trans (hg7.trans hg8))).el hll
      rw [q3] at hcu
      generalize S1.live[S1.live.length - 1] = z at hcu hcb
      rw [show (undosF S1).length - 1 = ((un : Int) - 1).toNat by omega] at hcu
      rw [show S1.live.length - 1 = ((bn : Int) - 1).toNat by omega] at hcb
      repeat' (first | (refine ob ?_ ?_; (first | trivial | omega | (simp only [inR]; omega) | exact ble (by rfl) | exact SlR.some ‹_› (by omega)); (conv => whnf)) | (first | (refine ra ‹_› (by rfl) ?_; (conv => whnf)) | (refine rb ‹_› (by rfl) ?_; (conv => whnf)) | (refine rc ‹_› (by rfl) ?_; (conv => whnf)) | (refine rd ‹_› (by rfl) ?_; (conv => whnf))))
      refine IteP.mk (fun _ => W.mk ?_) (fun h => absurd rfl h)
      (conv => whnf)
      refine IteP.mk (fun hew => W.mk ?_) (fun hew => W.mk ?_) <;> (conv => whnf)
      · refine OblP.mk ⟨by omega, by omega⟩ (W.mk ?_)
        (conv => whnf)
        have hr0 := Int.emod_nonneg (i : Int) (by omega : (en : Int) ≠ 0)
        have hr1 := Int.emod_lt_of_pos (i : Int) (by omega : (0 : Int) < (en : Int))
        have hce := (SlR.grow (G := G) (G' := G8) (fun _ _ h => h) hel (hG4.trans (hg5.trans (hg6.trans (hg7.trans hg8))))).el (i := ((i : Int) % (en : Int)).toNat) (by omega)
        have hw9 := hw8 _ (List.getElem_mem (l := words) (n := ((i : Int) % (en : Int)).toNat) (by omega))
        generalize words[((i : Int) % (en : Int)).toNat]'(by omega) = wv at hce hw9
        generalize (i : Int) % (en : Int) = ri at hr0 hr1 hce ⊢
        repeat' (first | (refine ob ?_ ?_; (first | trivial | omega | (simp only [inR]; omega) | exact ble (by rfl) | exact SlR.some ‹_› (by omega)); (conv => whnf)) | (first | (refine ra ‹_› (by rfl) ?_; (conv => whnf)) | (refine rb ‹_› (by rfl) ?_; (conv => whnf)) | (refine rc ‹_› (by rfl) ?_; (conv => whnf)) | (refine rd ‹_› (by rfl) ?_; (conv => whnf))))
        have hs0 := Int.emod_nonneg wv (by omega : (un : Int) ≠ 0)
        have hs1 := Int.emod_lt_of_pos wv (by omega : (0 : Int) < (un : Int))
        obtain ⟨kk, hkk⟩ : ∃ kk : Nat, wv % (un : Int) = kk := ⟨(wv % (un : Int)).toNat, by omega⟩
        rw [hkk] at hs1 ⊢
        have hkn : kk < (undosF S1).length := by omega
        have hck := hul.el hkn
        have hxm : (undosF S1)[kk] ∈ undosF S1 := List.getElem_mem hkn
        generalize (undosF S1)[kk] = xu at hck hxm
        repeat' (first | (refine ob ?_ ?_; (first | trivial | omega | (simp only [inR]; omega) | exact ble (by rfl) | exact SlR.some ‹_› (by omega)); (conv => whnf)) | (first | (refine ra ‹_› (by rfl) ?_; (conv => whnf)) | (refine rb ‹_› (by rfl) ?_; (conv => whnf)) | (refine rc ‹_› (by rfl) ?_; (conv => whnf)) | (refine rd ‹_› (by rfl) ?_; (conv => whnf))))
        have hrow2 := RowSp.snoc (x := ⟨xu, 0, 0, []⟩) (us := [I xu, I 0, I 0, .slice none 0 0]) (hrow.grow (hg6.trans (hg7.trans hg8))) rfl ⟨_, rfl, SlV.nil⟩
        obtain ⟨S2, hS2, hl2⟩ := back_step hS1 (by rw [List.length_append]; omega) hxm
        rw [List.append_assoc] at hS2 hrow2
        refine RelP.g (ok1 drRd fun d => d.ws.length ≤ 100000 ∧ d.ks.length ≤ 100000) (x := d) ⟨_, rfl, drRd.grow (hg6.trans (hg7.trans hg8)) hdr5, by omega, by omega⟩ (Grow.refl _) (fun v G9 hg9 hq9 => W.mk ?_)
        obtain ⟨_, _, rfl, ⟨_, _, _, rfl, _, _⟩, ⟨_, _, _, rfl, _, _⟩⟩ := id hq9
        (conv => whnf)
        repeat' (refine ob ?_ ?_; (first | trivial | omega | (simp only [inR]; omega) | exact ble (by rfl) | exact SlR.some ‹_› (by omega)); (conv => whnf))
        refine PubP.mk (fun ga2 gc2 G10 hg10 hp10 => W.mk ?_)
        have hall10 := ((hrow2.grow hg9).grow hg10).pub hp10 (by omega)
        (conv => whnf)
        refine RelP.g (ok2 drRd spsRd fun _ _ => True) (x := (d, steps ++ (us ++ [⟨xu, 0, 0, []⟩]))) ⟨_, _, rfl, drRd.grow hg10 hq9, hall10, trivial⟩ (Grow.refl _) (fun v G11 hg11 hq => W.mk ?_)
        unfold showR at hq
        dsimp only at hq
        rw [hS2] at hq
        obtain ⟨_, _, rfl, ⟨_, _, _, rfl, _, _⟩, hlv2⟩ := hq
        obtain ⟨ca, cn, cc, rfl, hcl, _⟩ := id hlv2
        have hclen := hcl.len
        (conv => whnf)
        (refine IteP.mk (fun _ => W.mk ?_) (fun _ => W.mk ?_) <;> first | (exfalso; omega) | (conv => whnf))
        repeat' (refine ob ?_ ?_; (first | trivial | omega | (simp only [inR]; omega) | exact ble (by rfl) | exact SlR.some ‹_› (by omega)); (conv => whnf))
        (refine IteP.mk (fun _ => W.mk ?_) (fun _ => W.mk ?_) <;> first | (exfalso; omega) | (conv => whnf))
        repeat' (refine ob ?_ ?_; (first | trivial | omega | (simp only [inR]; omega) | exact ble (by rfl) | exact SlR.some ‹_› (by omega)); (conv => whnf))
        refine RoundP.of (i + 1, us ++ [⟨xu, 0, 0, []⟩], S2, (ca, cn, cc), m + 1, _) (HeadP.of [(1, some 98)] ⟨rfl, rfl, rfl, rfl, rfl, trivial⟩ ⟨rfl, rfl, trivial⟩) ⟨by show i + 1 = (us ++ [_]).length; rw [List.length_append, hi]; rfl, by show i + 1 + S2.live.length ≤ 40; omega, hS2, fun x hx => ?_, hlv2, hrow2.grow (hg9.trans (hg10.trans hg11))⟩ (by show S2.live.length < S1.live.length; omega)
        rw [← List.append_assoc] at hx
        rcases List.mem_append.1 hx with hx | hx
        · exact hf1 x hx
        · have : x = ⟨xu, 0, 0, []⟩ := by simpa using hx
          rw [this]; exact ⟨Nat.zero_le _, fun s hs => by cases hs⟩
      · have hkn : 0 < (undosF S1).length := by omega
        have hck := hul.el hkn
        have hxm : (undosF S1)[0] ∈ undosF S1 := List.getElem_mem hkn
        generalize (undosF S1)[0] = xu at hck hxm
        repeat' (first | (refine ob ?_ ?_; (first | trivial | omega | (simp only [inR]; omega) | exact ble (by rfl) | exact SlR.some ‹_› (by omega)); (conv => whnf)) | (first | (refine ra ‹_› (by rfl) ?_; (conv => whnf)) | (refine rb ‹_› (by rfl) ?_; (conv => whnf)) | (refine rc ‹_› (by rfl) ?_; (conv => whnf)) | (refine rd ‹_› (by rfl) ?_; (conv => whnf))))
        have hrow2 := RowSp.snoc (x := ⟨xu, 0, 0, []⟩) (us := [I xu, I 0, I 0, .slice none 0 0]) (hrow.grow (hg6.trans (hg7.trans hg8))) rfl ⟨_, rfl, SlV.nil⟩
        obtain ⟨S2, hS2, hl2⟩ := back_step hS1 (by rw [List.length_append]; omega) hxm
        rw [List.append_assoc] at hS2 hrow2
        refine RelP.g (ok1 drRd fun d => d.ws.length ≤ 100000 ∧ d.ks.length ≤ 100000) (x := d) ⟨_, rfl, drRd.grow (hg6.trans (hg7.trans hg8)) hdr5, by omega, by omega⟩ (Grow.refl _) (fun v G9 hg9 hq9 => W.mk ?_)
        obtain ⟨_, _, rfl, ⟨_, _, _, rfl, _, _⟩, ⟨_, _, _, rfl, _, _⟩⟩ := id hq9
        (conv => whnf)
        repeat' (refine ob ?_ ?_; (first | trivial | omega | (simp only [inR]; omega) | exact ble (by rfl) | exact SlR.some ‹_› (by omega)); (conv => whnf))
        refine PubP.mk (fun ga2 gc2 G10 hg10 hp10 => W.mk ?_)
        have hall10 := ((hrow2.grow hg9).grow hg10).pub hp10 (by omega)
        (conv => whnf)
        refine RelP.g (ok2 drRd spsRd fun _ _ => True) (x := (d, steps ++ (us ++ [⟨xu, 0, 0, []⟩]))) ⟨_, _, rfl, drRd.grow hg10 hq9, hall10, trivial⟩ (Grow.refl _) (fun v G11 hg11 hq => W.mk ?_)
        unfold showR at hq
        dsimp only at hq
        rw [hS2] at hq
        obtain ⟨_, _, rfl, ⟨_, _, _, rfl, _, _⟩, hlv2⟩ := hq
        obtain ⟨ca, cn, cc, rfl, hcl, _⟩ := id hlv2
        have hclen := hcl.len
        (conv => whnf)
        (refine IteP.mk (fun _ => W.mk ?_) (fun _ => W.mk ?_) <;> first | (exfalso; omega) | (conv => whnf))
        repeat' (refine ob ?_ ?_; (first | trivial | omega | (simp only [inR]; omega) | exact ble (by rfl) | exact SlR.some ‹_› (by omega)); (conv => whnf))
        (refine IteP.mk (fun _ => W.mk ?_) (fun _ => W.mk ?_) <;> first | (exfalso; omega) | (conv => whnf))
        repeat' (refine ob ?_ ?_; (first | trivial | omega | (simp only [inR]; omega) | exact ble (by rfl) | exact SlR.some ‹_› (by omega)); (conv => whnf))
        refine RoundP.of (i + 1, us ++ [⟨xu, 0, 0, []⟩], S2, (ca, cn, cc), m + 1, _) (HeadP.of [(1, some 98)] ⟨rfl, rfl, rfl, rfl, rfl, trivial⟩ ⟨rfl, rfl, trivial⟩) ⟨by show i + 1 = (us ++ [_]).length; rw [List.length_append, hi]; rfl, by show i + 1 + S2.live.length ≤ 40; omega, hS2, fun x hx => ?_, hlv2, hrow2.grow (hg9.trans (hg10.trans hg11))⟩ (by show S2.live.length < S1.live.length; omega)
        rw [← List.append_assoc] at hx
        rcases List.mem_append.1 hx with hx | hx
        · exact hf1 x hx
        · have : x = ⟨xu, 0, 0, []⟩ := by simpa using hx
          rw [this]; exact ⟨Nat.zero_le _, fun s hs => by cases hs⟩
    · have hl0 : S1.live = [] := List.eq_nil_of_length_eq_zero (by omega)
      have hm80 : m ≤ 80 := by rw [hmm, List.length_append]; omega
      refine RelP.g (ok1 drRd fun d => d.ws.length ≤ 100000 ∧ d.ks.length ≤ 100000) (x := d) ⟨_, rfl, hdr5, by omega, by omega⟩ (Grow.refl _) (fun v G6 hg6 hq6 => W.mk ?_)
      obtain ⟨_, _, rfl, ⟨_, _, _, rfl, _, _⟩, ⟨_, _, _, rfl, _, _⟩⟩ := id hq6
      (conv => whnf)
      refine PubP.mk (fun ga gc G7 hg7 hp7 => W.mk ?_)
      have hall7 := ((hrow.grow hg6).grow hg7).pub hp7 (by omega)
      (conv => whnf)
      refine RelP.g (ok2 drRd spsRd fun _ _ => True) (x := (d, steps ++ us)) ⟨_, _, rfl, drRd.grow hg7 hq6, hall7, trivial⟩ (Grow.refl _) (fun v G8 hg8 hq => W.mk ?_)
      unfold showR at hq
      dsimp only at hq
      rw [hS1] at hq
      obtain ⟨_, _, rfl, hsh, ⟨_, _, _, rfl, _, _⟩⟩ := hq
      obtain ⟨_, _, _, rfl, _, _⟩ := id hsh
      (conv => whnf)
      (refine IteP.mk (fun _ => W.mk ?_) (fun _ => W.mk ?_) <;> first | (exfalso; omega) | (conv => whnf))
      refine ScaP.g (ok2 drRd (slRd viE) fun _ _ => True) (x := (d, shownF S1)) ⟨_, _, rfl, drRd.grow (hg6.trans (hg7.trans hg8)) hdr5, hsh, trivial⟩ (fun v hv2 => W.mk ?_)
      have hv2 : v = .bool true := hv2.trans (congrArg Value.bool (decide_eq_true (shown_all hrch hl0)))
      subst hv2
      (conv => whnf)
      refine ForkP.mk (fun _ => W.mk ?_) (fun h => by cases h)
      (conv => whnf)
      (refine ScaP.g okU (G := fun _ => none) (x := ()) rfl (fun v hv => W.mk ?_); subst hv; (conv => whnf); refine ForkP.mk (fun _ => W.mk ?_) (fun h => by cases h); (conv => whnf); exact FinP.mk rfl)
end Go.Proofs.YtfppbjfbghaclaaGreat
