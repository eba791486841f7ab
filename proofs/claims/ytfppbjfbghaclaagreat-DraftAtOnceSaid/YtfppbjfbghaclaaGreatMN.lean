/- Layer 3 (plain): what is shown; protected words stay. Layer 3: the law of DraftKept. Layer 3: items compared; shown. Layer 3 (plain): what holds of every sheet; a change that is undone at once; when all changes are undone. Layer 3: steps copied out of a row that is lent; the law of DraftAtOnce. Layer 3: the law of DraftAtOnce. -/
import Derived.Test.YtfppbjfbghaclaaGreatML
import Derived.Test.YtfppbjfbghaclaaGreatMI
import Derived.Test.YtfppbjfbghaclaaGreatMD
set_option linter.unusedSimpArgs false
set_option linter.unusedVariables false
namespace Go.Proofs.YtfppbjfbghaclaaGreat
open Go.Pal Go.RowKit
set_option maxRecDepth 100000
theorem play_inv {d : Dr} {I : Sh → Prop} (hI : ∀ {S S' : Sh} {x : Sp}, PosL S → I S → stepF d S x = some S' → I S') : ∀ {steps : List Sp} {S S' : Sh} {i : Nat}, PosL S → I S → playF d S steps i = .inr S' → I S' ∧ PosL S'
  | [], S, S', i, hp, h, e => by cases e; exact ⟨h, hp⟩
  | x :: r, S, S', i, hp, h, e => by
    simp only [playF] at e
    split at e
    · rename_i S1 hs
      exact play_inv hI (posL_step hp hs) (hI hp h hs) e
    · cases e
theorem posL_begin (d : Dr) : PosL (beginS d) := ⟨Int.le_refl _, fun n hn => by cases hn⟩
theorem endF_ok {d : Dr} {steps : List Sp} {S : Sh} (h : endF d steps = .ok S) : validF d = true ∧ steps.length ≤ 80 ∧ playF d (beginS d) steps 0 = .inr S := by
  unfold endF at h
  split at h
  · cases h
  · rename_i hv
    split at h
    · cases h
    · split at h
      · cases h
      · rename_i e; cases h; exact ⟨by simpa using hv, by omega, e⟩
end Go.Proofs.YtfppbjfbghaclaaGreat

namespace Go.Proofs.YtfppbjfbghaclaaGreat
open Go.Pal Go.RowKit
set_option maxRecDepth 100000
theorem ready_iff {d : Dr} {steps : List Sp} : readyF d steps = true ↔ thinF d steps = true ∧ ∃ S, endF d steps = .ok S := by
  rw [readyF, Bool.and_eq_true]
  refine and_congr_right fun _ => ?_
  cases endF d steps <;> simp [okE]
theorem countP_take_succ {α : Type} (p : α → Bool) (l : List α) {i : Nat} (h : i < l.length) : (l.take (i + 1)).countP p = (l.take i).countP p + if p l[i] = true then 1 else 0 := by
  rw [List.take_add_one, List.getElem?_eq_getElem h, Option.toList_some, List.countP_append, List.countP_singleton]
end Go.Proofs.YtfppbjfbghaclaaGreat

namespace Go.Proofs.YtfppbjfbghaclaaGreat
open Go.Pal Go.RowKit
set_option maxRecDepth 100000
instance : DecidableEq Vi := fun a b => decidable_of_iff (a.t = b.t ∧ a.o = b.o ∧ a.m = b.m) (by cases a; cases b; simp)
theorem eqSII_run {P : Program} {t s e : TypeId} (hu : (match P.underlying t with | some (.struct _) => true | _ => false) = true) (hf : (P.fieldsOf t).toList.map (fun f => (f.type, f.offset)) = [(s, 0), (e, 1), (e, 2)]) (hn : (P.fieldsOf t).toList.all (fun f => f.name != "_") = true) (hse : P.underlying s = some .string) (he : P.underlying e = some (.int .i64)) (hzs : szT P s = some 1) (hz : szT P e = some 1)
    (hs : P.stoodInHeld t = false) (w : World) (a a' : ByteArray) (b c b' c' : Int) : (Op.equalIn 10000 t (.agg #[.string a, I b, I c]) (.agg #[.string a', I b', I c'])).run P w = .ok (decide (a = a' ∧ b = b' ∧ c = c')) w := by
  rw [show (10000 : Nat) = 9999 + 1 from rfl, run_equalIn_struct w 9999 t _ _ (struct_of hu) hs]
  generalize (P.fieldsOf t).toList = fs at hf hn
  have hag : aggT P e = some false := by simp [aggT, he]
  have hags : aggT P s = some false := by simp [aggT, hse]
  have hsz := run_sizeOf' (P := P) (W := w) (t := e) (n := 1) hz
  have hgg := run_isAgg' (P := P) (W := w) (t := e) (g := false) hag
  have hszs := run_sizeOf' (P := P) (W := w) (t := s) (n := 1) hzs
  have hggs := run_isAgg' (P := P) (W := w) (t := s) (g := false) hags
  obtain ⟨f1, f2, f3, rfl⟩ : ∃ f1 f2 f3, fs = [f1, f2, f3] := by
    have hl := congrArg List.length hf
    simp only [List.length_map, List.length_cons, List.length_nil] at hl
    match fs, hl with
    | [f1, f2, f3], _ => exact ⟨f1, f2, f3, rfl⟩
  simp only [List.map_cons, List.map_nil, List.cons.injEq, Prod.mk.injEq, and_true] at hf
  obtain ⟨⟨t1, o1⟩, ⟨t2, o2⟩, t3, o3⟩ := hf
  simp only [List.all_cons, List.all_nil, Bool.and_true, Bool.and_eq_true, bne_iff_ne, ne_eq] at hn
  have he1 := fun a b => run_equalIn_int (P := P) w 9998 e .i64 .i64 a b he
  have hs1 := fun a b => run_equalIn_str (P := P) w 9998 s a b hse
  simp only [Op.eqFields, t1, o1, t2, o2, t3, o3, hn.1, hn.2.1, hn.2.2, ne_eq, not_false_eq_true, if_true]
  simp [part, hsz, hgg, hszs, hggs, he1, hs1, Result.andThen]
  by_cases h1 : a = a'
  · subst h1
    by_cases h2 : b = b'
    · subst h2
      by_cases h3 : c = c'
      · subst h3; simp [he1]
      · simp [he1, h3]
    · simp [he1, h2]
  · simp [h1]
theorem pur_neItem (x y : Vi) : ∀ w, ((POp.bin .neq 57).sem [.agg (viE.f x).toArray, .agg (viE.f y).toArray]).run Tryz.prog w = .ok (.bool (!decide (x = y))) w := fun w => by
  have e1 : (POp.bin .neq 57).sem [.agg (viE.f x).toArray, .agg (viE.f y).toArray] = (do eqGuard .neq 57 (.tmp 0) (.tmp 0) (.agg #[.string x.t, I x.o, I x.m]) (.agg #[.string y.t, I y.o, I y.m]); binOp .neq 57 (.agg #[.string x.t, I x.o, I x.m]) (.agg #[.string y.t, I y.o, I y.m])) := rfl
  have e2 : decide (x = y) = decide (x.t = y.t ∧ x.o = y.o ∧ x.m = y.m) := by
    apply decide_eq_decide.2
    cases x; cases y; simp
  rw [e1, e2]
  have hr := eqSII_run (P := Tryz.prog) (t := 57) (s := 9) (e := 3) (by kernel_rfl) (by kernel_rfl) (by kernel_rfl) und9 (by kernel_rfl) (by kernel_rfl) (by kernel_rfl) (by kernel_rfl) w x.t y.t x.o x.m y.o y.m
  have hg : Tryz.prog.eqGuardType Tryz.prog.depth 57 = false := by kernel_rfl
  simp [run_eqGuard_agg w .neq 57 _ _ _ _ hg, run_neq_struct, hr, Result.andThen]
end Go.Proofs.YtfppbjfbghaclaaGreat

namespace Go.Proofs.YtfppbjfbghaclaaGreat
open Go.Pal Go.RowKit
set_option maxRecDepth 100000
theorem playF_app {d : Dr} : ∀ (xs ys : List Sp) (S : Sh) (i : Nat), playF d S (xs ++ ys) i = match playF d S xs i with
    | .inl k => .inl k
    | .inr S' => playF d S' ys (i + xs.length)
  | [], ys, S, i => rfl
  | x :: xs, ys, S, i => by
    show (match stepF d S x with
      | some S' => playF d S' (xs ++ ys) (i + 1)
      | none => .inl i) = match (match stepF d S x with
      | some S' => playF d S' xs (i + 1)
      | none => .inl i) with
      | .inl k => .inl k
      | .inr S' => playF d S' ys (i + (xs.length + 1))
    cases stepF d S x with
    | none => rfl
    | some S1 =>
      have h := playF_app (d := d) xs ys S1 (i + 1)
      rw [show i + 1 + xs.length = i + (xs.length + 1) by omega] at h
      exact h
def It.key (y : It) : ByteArray × Int × Int := (y.t, y.o, y.m)
theorem goneF_key (n : Int) : ∀ (ps : List Nat) (l : List It), (goneF l n ps).map It.key = l.map It.key
  | [], l => rfl
  | p :: ps, l => by
    have e : goneF l n (p :: ps) = goneF (l.set p { l.getD p default with g := n }) n ps := rfl
    rw [e, goneF_key n ps, List.map_set]
    by_cases hp : p < l.length
    · have hgd : l.getD p default = l[p] := by simp [hp]
      rw [hgd]
      have : (l.map It.key)[p]'(by simpa using hp) = It.key l[p] := by simp
      show (l.map It.key).set p (It.key l[p]) = _
      rw [← this, List.set_getElem_self]
    · rw [List.set_eq_of_length_le (by simpa using hp)]
theorem goneF_of (n : Int) : ∀ (ps : List Nat) (l : List It), ∀ y ∈ goneF l n ps, ∃ z ∈ l, y.key = z.key ∧ (y.g = z.g ∨ y.g = n)
  | [], l, y, hy => ⟨y, hy, rfl, .inl rfl⟩
  | p :: ps, l, y, hy => by
    have hy : y ∈ goneF (l.set p { l.getD p default with g := n }) n ps := hy
    obtain ⟨z, hz, h1, h2⟩ := goneF_of n ps _ y hy
    by_cases hp : p < l.length
    · rcases List.mem_or_eq_of_mem_set hz with h3 | rfl
      · exact ⟨z, h3, h1, h2⟩
      · have hgd : l.getD p default = l[p] := by simp [hp]
        refine ⟨l[p], List.getElem_mem hp, ?_, .inr ?_⟩
        · rw [h1, hgd]; rfl
        · rcases h2 with h2 | h2
          · exact h2
          · exact h2
    · rw [List.set_eq_of_length_le (by omega)] at hz
      exact ⟨z, hz, h1, h2⟩
theorem backF_key (n : Int) (y : It) : (backF n y).key = y.key := by unfold backF; split <;> rfl
theorem backF_m (n : Int) (y : It) : (backF n y).m = y.m := by unfold backF; split <;> rfl
theorem key_m {y z : It} (h : y.key = z.key) : y.m = z.m := congrArg (fun k => k.2.2) h
def baseF (l : List It) : List (ByteArray × Int × Int) := (l.map It.key).filter fun k => k.2.2 = 0
structure Rch (d : Dr) (S : Sh) : Prop where
  wf : Inv d.ws.length S
  pos : PosL S
  le : ∀ n ∈ S.live, n ≤ S.ch
  inc : S.live.Pairwise (· < ·)
  gl : ∀ y ∈ S.its, y.g = 0 ∨ y.g ∈ S.live
  ml : ∀ y ∈ S.its, y.m = 0 ∨ y.m ∈ S.live
  base : baseF S.its = (List.range d.ws.length).map fun (i : Nat) => ((d.ws.getD i default).t, (i : Int), 0)
theorem rch_begin (d : Dr) : Rch d (beginS d) := by
  refine ⟨inv_begin d, posL_begin d, fun n hn => (by cases hn), List.Pairwise.nil, fun y hy => ?_, fun y hy => ?_, ?_⟩
  · obtain ⟨i, hi, rfl⟩ := List.mem_map.1 hy; exact .inl rfl
  · obtain ⟨i, hi, rfl⟩ := List.mem_map.1 hy; exact .inl rfl
  · show ((List.map _ _).map It.key).filter _ = _
    rw [List.map_map, List.filter_eq_self.2]
    · rfl
    · intro k hk
      obtain ⟨i, hi, rfl⟩ := List.mem_map.1 hk
      rfl
theorem baseF_app (l r : List It) : baseF (l ++ r) = baseF l ++ baseF r := by rw [baseF, List.map_append, List.filter_append]; rfl
theorem rch_step {d : Dr} {S S' : Sh} {x : Sp} (h : Rch d S) (hs : stepF d S x = some S') : Rch d S' := by
  refine ⟨inv_step h.pos.1 h.wf hs, posL_step h.pos hs, ?_, ?_, ?_, ?_, ?_⟩ <;> unfold stepF at hs <;> split at hs
  · unfold changeF at hs
    split at hs
    · cases hs
      intro n hn
      show n ≤ S.ch + 1
      rcases List.mem_append.1 hn with hn | hn
      · have := h.le n hn; omega
      · have : n = S.ch + 1 := by simpa using hn
        omega
    · cases hs
  · unfold undoF at hs
    split at hs
    · cases hs
      exact fun n hn => h.le n (List.mem_filter.1 hn).1
    · cases hs
  · unfold changeF at hs
    split at hs
    · cases hs
      refine List.pairwise_append.2 ⟨h.inc, by simp, fun a ha b hb => ?_⟩
      have : b = S.ch + 1 := by simpa using hb
      have := h.le a ha
      omega
    · cases hs
  · unfold undoF at hs
    split at hs
    · cases hs; exact h.inc.filter _
    · cases hs
  · unfold changeF at hs
    split at hs
    · cases hs
      intro y hy
      show y.g = 0 ∨ y.g ∈ S.live ++ [S.ch + 1]
      have old : y ∈ goneF S.its (S.ch + 1) (cutF S.its x) → y.g = 0 ∨ y.g ∈ S.live ++ [S.ch + 1] := fun hm => by
        obtain ⟨z, hz, _, h2⟩ := goneF_of _ _ _ y hm
        rcases h2 with h2 | h2
        · rw [h2]; exact (h.gl z hz).imp id fun h3 => List.mem_append_left _ h3
        · rw [h2]; exact .inr (by simp)
      rcases List.mem_append.1 hy with hy | hy
      · rcases List.mem_append.1 hy with hy | hy
        · exact old (List.mem_of_mem_take hy)
        · obtain ⟨t, _, rfl⟩ := List.mem_map.1 hy; exact .inl rfl
      · exact old (List.mem_of_mem_drop hy)
    · cases hs
  · unfold undoF at hs
    split at hs
    · cases hs
      intro y hy
      obtain ⟨z, hz, rfl⟩ := List.mem_map.1 hy
      show (backF x.u z).g = 0 ∨ (backF x.u z).g ∈ S.live.filter (· != x.u)
      unfold backF
      split
      · exact .inl rfl
      · rename_i hne
        rcases h.gl z (List.mem_filter.1 hz).1 with h3 | h3
        · exact .inl h3
        · exact .inr (List.mem_filter.2 ⟨h3, by simpa using hne⟩)
    · cases hs
  · unfold changeF at hs
    split at hs
    · cases hs
      intro y hy
      show y.m = 0 ∨ y.m ∈ S.live ++ [S.ch + 1]
      have old : y ∈ goneF S.its (S.ch + 1) (cutF S.its x) → y.m = 0 ∨ y.m ∈ S.live ++ [S.ch + 1] := fun hm => by
        obtain ⟨z, hz, h1, _⟩ := goneF_of _ _ _ y hm
        rw [key_m h1]; exact (h.ml z hz).imp id fun h3 => List.mem_append_left _ h3
      rcases List.mem_append.1 hy with hy | hy
      · rcases List.mem_append.1 hy with hy | hy
        · exact old (List.mem_of_mem_take hy)
        · obtain ⟨t, _, rfl⟩ := List.mem_map.1 hy; exact .inr (by simp)
      · exact old (List.mem_of_mem_drop hy)
    · cases hs
  · unfold undoF at hs
    split at hs
    · cases hs
      intro y hy
      obtain ⟨z, hz, rfl⟩ := List.mem_map.1 hy
      obtain ⟨hz1, hz2⟩ := List.mem_filter.1 hz
      show (backF x.u z).m = 0 ∨ (backF x.u z).m ∈ S.live.filter (· != x.u)
      rw [backF_m]
      rcases h.ml z hz1 with h3 | h3
      · exact .inl h3
      · exact .inr (List.mem_filter.2 ⟨h3, hz2⟩)
    · cases hs
  · unfold changeF at hs
    split at hs
    · cases hs
      show baseF (insF (goneF S.its (S.ch + 1) (cutF S.its x)) (placeF S.its x) (putF (S.ch + 1) x.put)) = _
      have hput : baseF (putF (S.ch + 1) x.put) = [] := by
        rw [baseF, List.filter_eq_nil_iff]
        intro k hk
        simp only [putF, List.map_map, List.mem_map, Function.comp] at hk
        obtain ⟨_, _, rfl⟩ := hk
        have := h.pos.1
        show ¬ decide (S.ch + 1 = 0) = true
        rw [decide_eq_false (by omega)]; decide
      rw [insF, baseF_app, baseF_app, hput, List.append_nil, ← baseF_app, List.take_append_drop, baseF, goneF_key]
      exact h.base
    · cases hs
  · unfold undoF at hs
    split at hs
    · rename_i hu
      cases hs
      have hu1 : 1 ≤ x.u := by
        unfold undoableF at hu
        exact h.pos.2 _ (of_decide_eq_true (Bool.and_eq_true_iff.1 hu).1)
      show baseF ((S.its.filter fun y => y.m != x.u).map (backF x.u)) = _
      rw [← h.base]
      have key : ∀ l : List It, baseF ((l.filter fun y => y.m != x.u).map (backF x.u)) = baseF l := by
        intro l
        rw [baseF, baseF, List.map_map]
        have : (It.key ∘ backF x.u) = It.key := funext fun y => backF_key x.u y
        rw [this, List.filter_map, List.filter_map, List.filter_filter]
        congr 1
        apply List.filter_congr
        intro y _
        simp only [Function.comp, It.key]
        by_cases h0 : y.m = 0
        · simp [h0]; omega
        · simp [h0]
      exact key S.its
    · cases hs
theorem rch_play {d : Dr} {steps : List Sp} {S S' : Sh} {i : Nat} (h : Rch d S) (e : playF d S steps i = .inr S') : Rch d S' :=
  (play_inv (I := Rch d) (fun _ h hs => rch_step h hs) h.pos h e).1
theorem rch_end {d : Dr} {steps : List Sp} {S : Sh} (h : endF d steps = .ok S) : Rch d S := rch_play (rch_begin d) (endF_ok h).2.2
/-! ### A change that is undone at once -/
theorem goneF_back (n : Int) : ∀ (ps : List Nat) (l : List It), (∀ p ∈ ps, (l.getD p default).g = 0 ∨ (l.getD p default).g = n) → (goneF l n ps).map (backF n) = l.map (backF n)
  | [], l, _ => rfl
  | p :: ps, l, h => by
    have e : goneF l n (p :: ps) = goneF (l.set p { l.getD p default with g := n }) n ps := rfl
    have hb : backF n { l.getD p default with g := n } = backF n (l.getD p default) := by
      unfold backF
      rw [if_pos rfl]
      rcases h p (by simp) with h1 | h1
      · split
        · rfl
        · rw [← h1]
      · rw [if_pos h1]
    rw [e, goneF_back n ps]
    · rw [List.map_set, hb]
      by_cases hp : p < l.length
      · have hgd : l.getD p default = l[p] := by simp [hp]
        rw [hgd]
        have : (l.map (backF n))[p]'(by simpa using hp) = backF n l[p] := by simp
        rw [← this, List.set_getElem_self]
      · rw [List.set_eq_of_length_le (by simpa using hp)]
    · intro q hq
      by_cases hqp : q = p
      · subst hqp
        by_cases hl : q < l.length
        · right
          simp [List.getD_eq_getElem?_getD, hl]
        · rw [List.set_eq_of_length_le (by omega)]; exact h q (by simp)
      · have : (l.set p { l.getD p default with g := n }).getD q default = l.getD q default := by
          rw [List.getD_eq_getElem?_getD, List.getElem?_set_ne (fun e => hqp e.symm), List.getD_eq_getElem?_getD]
        rw [this]; exact h q (by simp [hq])
theorem places_g {l : List It} {p : Nat} (h : p ∈ placesF l) : (l.getD p default).g = 0 := by
  simp only [placesF, placesN, List.mem_filter, decide_eq_true_eq] at h; exact h.2
theorem cut_g {l : List It} {x : Sp} {p : Nat} (h : p ∈ cutF l x) : (l.getD p default).g = 0 := places_g (List.mem_of_mem_drop (List.mem_of_mem_take h))
theorem undo_change {d : Dr} {S S1 : Sh} {x : Sp} (h : Rch d S) (hc : changeF d S x = some S1) : S1.ch = S.ch + 1 ∧ undoF S1 (S.ch + 1) = some ⟨S.its, S.live, S.ch + 1⟩ := by
  unfold changeF at hc
  split at hc
  case isFalse => cases hc
  cases hc
  refine ⟨rfl, ?_⟩
  have hpos := h.pos.1
  have oldm : ∀ y ∈ goneF S.its (S.ch + 1) (cutF S.its x), y.m ≠ S.ch + 1 := fun y hy => by
    obtain ⟨z, hz, h1, _⟩ := goneF_of _ _ _ y hy
    have := (h.wf z hz).2.2.1
    rw [key_m h1]; omega
  have hun : undoableF ⟨insF (goneF S.its (S.ch + 1) (cutF S.its x)) (placeF S.its x) (putF (S.ch + 1) x.put), S.live ++ [S.ch + 1], S.ch + 1⟩ (S.ch + 1) = true := by
    unfold undoableF
    rw [Bool.and_eq_true, List.all_eq_true]
    refine ⟨decide_eq_true (by simp), fun y hy => ?_⟩
    have hy : y ∈ insF (goneF S.its (S.ch + 1) (cutF S.its x)) (placeF S.its x) (putF (S.ch + 1) x.put) := hy
    have old : y ∈ goneF S.its (S.ch + 1) (cutF S.its x) → (y.m != S.ch + 1 || y.g == 0) = true := fun hm => by
      have := oldm y hm
      simp [this]
    rcases List.mem_append.1 hy with hy | hy
    · rcases List.mem_append.1 hy with hy | hy
      · exact old (List.mem_of_mem_take hy)
      · obtain ⟨t, _, rfl⟩ := List.mem_map.1 hy; simp
    · exact old (List.mem_of_mem_drop hy)
  unfold undoF
  rw [if_pos hun]
  have hits : ((insF (goneF S.its (S.ch + 1) (cutF S.its x)) (placeF S.its x) (putF (S.ch + 1) x.put)).filter fun y => y.m != S.ch + 1).map (backF (S.ch + 1)) = S.its := by
    have hput : (putF (S.ch + 1) x.put).filter (fun y => y.m != S.ch + 1) = [] := by
      rw [List.filter_eq_nil_iff]
      intro y hy
      obtain ⟨t, _, rfl⟩ := List.mem_map.1 hy
      simp
    have hold : (goneF S.its (S.ch + 1) (cutF S.its x)).filter (fun y => y.m != S.ch + 1) = goneF S.its (S.ch + 1) (cutF S.its x) := List.filter_eq_self.2 fun y hy => by
      have := oldm y hy
      simp [this]
    rw [insF, List.filter_append, List.filter_append, hput, List.append_nil, ← List.filter_append, List.take_append_drop, hold, goneF_back _ _ _ fun p hp => .inl (cut_g hp)]
    have : ∀ y ∈ S.its, backF (S.ch + 1) y = y := fun y hy => by
      have := (h.wf y hy).2.2.2
      unfold backF
      rw [if_neg (by omega)]
    rw [List.map_congr_left this, List.map_id']
  have hlive : (S.live ++ [S.ch + 1]).filter (· != S.ch + 1) = S.live := by
    rw [List.filter_append, List.filter_eq_self.2 fun n hn => by have := h.le n hn; simp; omega]
    simp
  show some (Sh.mk _ _ _) = _
  rw [hits, hlive]
def nCh (steps : List Sp) : Nat := steps.countP fun x => decide (x.u = 0)
theorem ch_step {d : Dr} {S S' : Sh} {x : Sp} (hs : stepF d S x = some S') : S'.ch = S.ch + if x.u = 0 then 1 else 0 := by
  unfold stepF at hs
  split at hs
  · rename_i hu
    unfold changeF at hs
    split at hs
    · cases hs; rw [if_pos hu]
    · cases hs
  · rename_i hu
    unfold undoF at hs
    split at hs
    · cases hs; rw [if_neg hu]; show S.ch = S.ch + 0; omega
    · cases hs
theorem ch_play {d : Dr} : ∀ {steps : List Sp} {S S' : Sh} {i : Nat}, playF d S steps i = .inr S' → S'.ch = S.ch + nCh steps
  | [], S, S', i, e => by cases e; simp [nCh]
  | x :: r, S, S', i, e => by
    simp only [playF] at e
    split at e
    · rename_i S1 hs
      have h1 := ch_step hs
      have h2 := ch_play e
      rw [h2, h1, nCh, nCh, List.countP_cons]
      by_cases hu : x.u = 0 <;> simp [hu] <;> omega
    · cases e
theorem ch_end {d : Dr} {steps : List Sp} {S : Sh} (h : endF d steps = .ok S) : S.ch = nCh steps := by
  have := ch_play (endF_ok h).2.2
  rw [this]; show (0 : Int) + _ = _; omega
theorem endF_app {d : Dr} {steps more : List Sp} {S : Sh} (h : endF d steps = .ok S) (hl : steps.length + more.length ≤ 80) : endF d (steps ++ more) = match playF d S more steps.length with
    | .inl k => .fail k
    | .inr S' => .ok S' := by
  obtain ⟨hv, _, hp⟩ := endF_ok h
  unfold endF
  rw [if_neg (by rw [hv]; decide), if_neg (by rw [List.length_append]; omega), playF_app, hp]
  simp only [Nat.zero_add]
  cases playF d S more steps.length <;> rfl
end Go.Proofs.YtfppbjfbghaclaaGreat

namespace Go.Proofs.YtfppbjfbghaclaaGreat
open Go.Pal Go.RowKit
set_option maxRecDepth 100000
theorem sub1 {vs cs : List Value} {o d : Nat} (h : (vs.drop o).take 4 = cs) (hd : d < 4) : (vs.drop (o + d)).take 1 = (cs.drop d).take 1 := by
  rw [← h, List.drop_take, List.take_take, List.drop_drop, Nat.min_eq_left (by omega)]
def stepsL (l : List Sp) : PSpec := .st (fun args ls G => ∃ b n cap vs rest, args = [.slice (some ⟨b, 0, none⟩) n cap] ∧ ls = [⟨b, false, .row n n cap vs rest 61 4⟩] ∧ n = l.length ∧ ∀ i (h : i < l.length), ((vs.drop (i * 4)).take 4).length = 4 ∧ SpC G ((vs.drop (i * 4)).take 4) l[i]) fun _ _ v ns G => ns = [] ∧ spsRd.R G v l
theorem steps18l (l : List Sp) (hb : l.length ≤ 100000) (hf : FineS l) : Sound Tryz.prog 18 id (stepsL l) := by
  refine ⟨fun args ls v ns G G' hg h => ⟨h.1, spsRd.grow hg h.2⟩, fun args ls G Wd hsub hls hnd hpre => ?_⟩
  obtain ⟨b, n, cap, vs, rest, rfl, rfl, hn, hvs⟩ := hpre
  have hone := (hls _ (List.mem_singleton.2 rfl)).2.2
  obtain ⟨z1, z2, z3, z4, z5, z6⟩ := id hone
  refine st_sound (Tab.cons 46 _ texts46 body46 (Tab.nil _)) comp18b (svs := [.c (.row 0 n)]) (obs := [.xrow b n cap vs rest 61 4]) (by simp) hsub hls hnd (Nat.le_refl _) ?_ ?_ ?_
  · exact ⟨⟨rfl, _, _, rfl⟩, (Nat.le_of_ble_eq_true rfl : 0 < 1), trivial⟩
  · exact ⟨rfl, trivial⟩
  · (conv => whnf)
    refine LoopP.of { α := Nat × Nat × List Value, fr := fun x => [(0, .c (.row 0 n)), (3, .c (.row 2 x.2.1)), (4, .v (I x.1))], H := fun x => [(0, .xrow b n cap vs rest 61 4), (2, .row none x.2.1 x.2.2 76 4)], ok := fun x G => x.1 ≤ l.length ∧ x.2.1 = x.1 ∧ x.2.2.length = x.1 * 4 ∧ ∀ i (h : i < (l.take x.1).length), ((x.2.2.drop (i * 4)).take 4).length = 4 ∧ SpC G ((x.2.2.drop (i * 4)).take 4) (l.take x.1)[i], m := fun x => l.length - x.1 }
      (0, 0, []) (HeadP.of [(2, none)] ⟨rfl, rfl, rfl, trivial⟩ ⟨rfl, rfl, trivial⟩) ⟨Nat.zero_le _, rfl, rfl, fun i h => absurd h (by simp)⟩ (fun _ => ⟨rfl, rfl⟩) (fun x G2 hg2 hx => W.mk ?_)
    obtain ⟨i, m, us⟩ := x
    obtain ⟨hi, hm, hul, hus⟩ := hx
    dsimp only at hi hm hul hus
    dsimp only
    (conv => whnf)
    refine IteP.mk (fun hlt => W.mk ?_) (fun hge => W.mk ?_) <;> (conv => whnf)
    · have h1 : i < l.length := by omega
      obtain ⟨c1, c3⟩ := hvs i h1
      have c3 := SpC.grow _ _ hg2 c3
      have hfi := hf _ (List.getElem_mem h1)
      have htk : l.take (i + 1) = l.take i ++ [l[i]] := by rw [List.take_add_one, List.getElem?_eq_getElem h1]; rfl
      generalize l[i] = x at c3 hfi htk
      obtain ⟨pv, hcs, hp⟩ := id c3
      obtain ⟨pa, pn, pc, rfl, hpl, hpn⟩ := id hp
      repeat' (refine ob ?_ ?_; (first | trivial | omega | (simp only [inR]; omega) | exact ble (by rfl) | exact SlR.some ‹_› (by omega)); (conv => whnf))
      refine EqP.mk ⟨_, sub1 (d := 0) hcs (by omega), rfl, W.mk ?_⟩
      (conv => whnf)
      repeat' (refine ob ?_ ?_; (first | trivial | omega | (simp only [inR]; omega) | exact ble (by rfl) | exact SlR.some ‹_› (by omega)); (conv => whnf))
      refine EqP.mk ⟨_, sub1 (d := 1) hcs (by omega), rfl, W.mk ?_⟩
      (conv => whnf)
      repeat' (refine ob ?_ ?_; (first | trivial | omega | (simp only [inR]; omega) | exact ble (by rfl) | exact SlR.some ‹_› (by omega)); (conv => whnf))
      refine EqP.mk ⟨_, sub1 (d := 2) hcs (by omega), rfl, W.mk ?_⟩
      (conv => whnf)
      repeat' (refine ob ?_ ?_; (first | trivial | omega | (simp only [inR]; omega) | exact ble (by rfl) | exact SlR.some ‹_› (by omega)); (conv => whnf))
      refine EqP.mk ⟨_, sub1 (d := 3) hcs (by omega), rfl, W.mk ?_⟩
      (conv => whnf)
      refine RelP.g (ok1 (slRd strE) fun l => l.length ≤ 100000) (x := x.put) ⟨_, rfl, hp, by show x.put.length ≤ _; omega⟩ (Grow.refl _) (fun v G3 hg3 hq => W.mk ?_)
      obtain ⟨ra, rn, rc, rfl, _, _⟩ := id hq
      (conv => whnf)
      repeat' (refine ob ?_ ?_; (first | trivial | omega | (simp only [inR]; omega) | exact ble (by rfl) | exact SlR.some ‹_› (by omega)); (conv => whnf))
      have hlt2 : (l.take i).length = i := by rw [List.length_take]; omega
      have hnx := spv_snoc (G := G3) (x := x) (us := [I x.u, I x.a, I x.c, .slice ra rn rc]) (by rw [hlt2]; exact hul) (fun j hj => ⟨(hus j hj).1, SpC.grow _ _ hg3 (hus j hj).2⟩) rfl ⟨_, rfl, hq⟩
      rw [← htk] at hnx
      exact RoundP.of (i + 1, m + 1, _) (HeadP.of [(2, some 32)] ⟨rfl, rfl, rfl, trivial⟩ ⟨rfl, rfl, trivial⟩) ⟨h1, by show m + 1 = i + 1; omega, by show (us ++ _).length = (i + 1) * 4; rw [List.length_append, hul]; simp; omega, hnx⟩ (by show l.length - (i + 1) < l.length - i; omega)
    · have : i = l.length := by omega
      subst this
      rw [List.take_length] at hus
      refine PubP.mk (fun ga gc G4 hg4 hp => W.mk ?_)
      (conv => whnf)
      exact FinS.mk ⟨[], ⟨.row n n cap vs rest 61 4, ⟨rfl, Nat.le_refl _⟩, ⟨rfl, rfl, rfl, rfl, rfl⟩, rfl, rfl⟩, rfl, _, _, _, rfl, SlR.ofPub hp hm.symm fun i hi => ⟨(hus i hi).1, SpC.grow _ _ hg4 (hus i hi).2⟩, by unfold maxLen; omega⟩
end Go.Proofs.YtfppbjfbghaclaaGreat

namespace Go.Proofs.YtfppbjfbghaclaaGreat
open Go.Pal Go.RowKit
set_option maxRecDepth 100000
abbrev lawN (T : Tab Tryz.prog) : Tab Tryz.prog := Tab.cons 15 _ awake15 body15 (Tab.cons 25 _ ready25 body25 (Tab.cons 17 _ draft17 body17 (Tab.cons 26 _ play26 body26 T)))
set_option maxHeartbeats 8000000 in
theorem law7 : Sound Tryz.prog 7 id (gsca (args3 duRd suRd sp1Rd fun _ _ _ => True) fun _ v => v = .bool true) := by
  refine comp7.gsca (lawN (Tab.cons 28 _ short28 body28 (Tab.cons 23 _ ints23 body23 (Tab.nil _)))) (fun args G s h => ?_) (fun args G x h => ?_)
  · obtain ⟨u, v, w, rfl, _⟩ := h; simp
  · obtain ⟨d, steps, more⟩ := x
    obtain ⟨_, _, _, rfl, hdu, hsu, ⟨_, rfl, ⟨pv, rfl, hput⟩⟩, _⟩ := h
    dsimp only at hdu hsu hput
    obtain ⟨w, k, rfl, hw, hk⟩ := id hdu
    obtain ⟨wa, wn, wc, rfl, hwl, _⟩ := id hw
    obtain ⟨ka, kn, kc, rfl, hkl, _⟩ := id hk
    obtain ⟨a, n, c, rfl, hst, hn⟩ := id hsu
    obtain ⟨pa, pn, pc, rfl, hpl, hpn⟩ := id hput
    have hlen := hst.len
    dsimp only
    (conv => whnf)
    refine IteP.mk (fun h78 => W.mk ?_) (fun h78 => W.mk ?_) <;> (conv => whnf)
    · (refine ScaP.g okU (G := fun _ => none) (x := ()) rfl (fun v hv => W.mk ?_); subst hv; (conv => whnf); refine ForkP.mk (fun _ => W.mk ?_) (fun h => by cases h); (conv => whnf); exact FinP.mk rfl)
    refine ScaP.g (ok2 duRd suRd fun _ _ => True) (x := (d, steps)) ⟨_, _, rfl, hdu, hsu, trivial⟩ (fun v hv => W.mk ?_)
    subst hv
    dsimp only
    (conv => whnf)
    refine ForkP.mk (fun ht => W.mk ?_) (fun ht => W.mk ?_) <;> (conv => whnf)
    rotate_left
    · (refine ScaP.g okU (G := fun _ => none) (x := ()) rfl (fun v hv => W.mk ?_); subst hv; (conv => whnf); refine ForkP.mk (fun _ => W.mk ?_) (fun h => by cases h); (conv => whnf); exact FinP.mk rfl)
    refine ScaP.g (ok1 ⟨SlU strE, SlU.uniq, SlU.grow⟩ fun _ => True) (x := more.put) ⟨_, rfl, hput, trivial⟩ (fun v hv => W.mk ?_)
    subst hv
    (conv => whnf)
    refine ForkP.mk (fun hsh => W.mk ?_) (fun hsh => W.mk ?_) <;> (conv => whnf)
    rotate_left
    · (refine ScaP.g okU (G := fun _ => none) (x := ()) rfl (fun v hv => W.mk ?_); subst hv; (conv => whnf); refine ForkP.mk (fun _ => W.mk ?_) (fun h => by cases h); (conv => whnf); exact FinP.mk rfl)
    obtain ⟨hthin, S, hS⟩ := ready_iff.1 ht
    obtain ⟨t1, t2, t3, t4, t5⟩ := thin_iff.1 hthin
    obtain ⟨s1, s2⟩ := short_iff.1 hsh
    have hdr := thin_dr hthin hdu
    have hsr := thin_sps hthin hsu
    obtain ⟨_, _, _, e, hsc, _⟩ := id hsr
    cases e
    obtain ⟨hv, h80, hpl2⟩ := endF_ok hS
    have hrch := rch_end hS
    have hlen78 : steps.length ≤ 78 := by omega
    refine LoopP.of { α := Nat × Nat, fr := fun x => [(1, .v (.slice a n c)), (3, .c (.ptr 0 0)), (5, .c (.ptr 1 0)), (7, .v (I x.2)), (8, .v (I x.1))], H := fun _ => [(0, .cells .anon [.val (.slice wa wn wc), .val (.slice ka kn kc)] 25), (1, .cells .anon [.val (I more.u), .val (I more.a), .val (I more.c), .val (.slice pa pn pc)] 61)], ok := fun x _ => x.1 ≤ steps.length ∧ x.2 = nCh (steps.take x.1), m := fun x => steps.length - x.1 }
      (0, 0) (HeadP.of [] ⟨rfl, rfl, rfl, rfl, rfl, trivial⟩ ⟨rfl, rfl, trivial⟩) ⟨Nat.zero_le _, rfl⟩ (fun _ => ⟨rfl, rfl⟩) (fun x G1 hg1 hx => W.mk ?_)
    obtain ⟨i, m⟩ := x
    obtain ⟨hi, hm⟩ := hx
    dsimp only at hi hm
    dsimp only
    (conv => whnf)
    refine IteP.mk (fun hlt => W.mk ?_) (fun hge => W.mk ?_) <;> (conv => whnf)
    · have h1 : i < steps.length := by omega
      obtain ⟨cs, c1, c2, c3⟩ := (SlR.grow (G := G) (G' := G1) (fun cs x h => SpC.grow cs x hg1 h) hsc hg1).at_ i h1
      have hsu2 := countP_take_succ (fun x : Sp => decide (x.u = 0)) steps h1
      have hle : nCh (steps.take i) ≤ i := Nat.le_trans List.countP_le_length (by rw [List.length_take]; omega)
      generalize steps[i] = x at c3 hsu2
      obtain ⟨qv, rfl, hq⟩ := c3
      repeat' (first | (refine ob ?_ ?_; (first | trivial | omega | (simp only [inR]; omega) | exact ble (by rfl) | exact SlR.some ‹_› (by omega)); (conv => whnf)) | (first | (refine ra ‹_› (by rfl) ?_; (conv => whnf)) | (refine rb ‹_› (by rfl) ?_; (conv => whnf)) | (refine rc ‹_› (by rfl) ?_; (conv => whnf)) | (refine rd ‹_› (by rfl) ?_; (conv => whnf))))
      refine IteP.mk (fun hq0 => W.mk ?_) (fun hq0 => W.mk ?_) <;> (conv => whnf)
      · repeat' (refine ob ?_ ?_; (first | trivial | omega | (simp only [inR]; omega) | exact ble (by rfl) | exact SlR.some ‹_› (by omega)); (conv => whnf))
        exact RoundP.of (i + 1, m + 1) (HeadP.of [] ⟨rfl, rfl, rfl, rfl, rfl, trivial⟩ ⟨rfl, rfl, trivial⟩) ⟨h1, by show m + 1 = nCh (steps.take (i + 1)); rw [nCh, hsu2, if_pos (decide_eq_true hq0), hm]; rfl⟩ (by show steps.length - (i + 1) < steps.length - i; omega)
      · repeat' (refine ob ?_ ?_; (first | trivial | omega | (simp only [inR]; omega) | exact ble (by rfl) | exact SlR.some ‹_› (by omega)); (conv => whnf))
        exact RoundP.of (i + 1, m) (HeadP.of [] ⟨rfl, rfl, rfl, rfl, rfl, trivial⟩ ⟨rfl, rfl, trivial⟩) ⟨h1, by show m = nCh (steps.take (i + 1)); rw [nCh, hsu2, if_neg (by simpa using hq0), hm]; rfl⟩ (by show steps.length - (i + 1) < steps.length - i; omega)
    · have : i = steps.length := by omega
      subst this
      rw [List.take_length] at hm
      have hch := ch_end hS
      have hm9 : m ≤ 78 := by rw [hm]; exact Nat.le_trans List.countP_le_length hlen78
      have hscG := SlR.grow (G := G) (G' := G1) (fun cs x h => SpC.grow cs x hg1 h) hsc hg1
      obtain ⟨vs, v1, v2, v3, v4⟩ := raw_cells (R := SpC G1) (fun cs x h => h.one) hscG.at_
      refine DrawP.mk monoT_nil rfl (W.mk ?_)
      (conv => whnf)
      repeat' (refine ob ?_ ?_; (first | trivial | omega | (simp only [inR]; omega) | exact ble (by rfl) | exact SlR.some ‹_› (by omega)); (conv => whnf))
      refine OblP.mk (fun h => hscG.some h) (W.mk ?_)
      (conv => whnf)
      refine RdP.at v2 (by rw [v1, hlen]) (W.mk ?_)
      (conv => whnf)
      refine OblP.mk v3 (W.mk ?_)
      (conv => whnf)
      repeat' (refine ob ?_ ?_; (first | trivial | omega | (simp only [inR]; omega) | exact ble (by rfl) | exact SlR.some ‹_› (by omega)); (conv => whnf))
      have hdrG := drRd.grow hg1 hdr
      refine RelP.g (ok1 drRd fun d => d.ws.length ≤ 100000 ∧ d.ks.length ≤ 100000) (x := d) ⟨_, rfl, hdrG, by omega, by omega⟩ (Grow.refl _) (fun v G2 hg2 hq2 => W.mk ?_)
      obtain ⟨_, _, rfl, ⟨_, _, _, rfl, _, _⟩, ⟨_, _, _, rfl, _, _⟩⟩ := id hq2
      (conv => whnf)
      refine CallN.mk ⟨_, steps18, body18, W.mk ?_⟩
      (conv => whnf)
      refine RelP.g (ok1 spsRd fun l => l.length ≤ 100000 ∧ FineS l) (x := steps) ⟨_, rfl, spsRd.grow (hg1.trans hg2) hsr, by omega, thin_fine hthin⟩ (Grow.refl _) (fun v G3 hg3 hq3 => W.mk ?_)
      obtain ⟨_, _, _, rfl, _, _⟩ := id hq3
      (conv => whnf)
      refine RelP.g (ok2 drRd spsRd fun _ _ => True) (x := (d, steps)) ⟨_, _, rfl, drRd.grow hg3 hq2, hq3, trivial⟩ (Grow.refl _) (fun v G4 hg4 hq => W.mk ?_)
      unfold showR at hq
      dsimp only at hq
      rw [hS] at hq
      obtain ⟨xa, xb, rfl, hx1, hx2⟩ := hq
      obtain ⟨la, ln, lc, rfl, hl, hln⟩ := id hx1
      obtain ⟨va, vn, vc, rfl, _, _⟩ := id hx2
      have hG4 := hg2.trans (hg3.trans hg4)
      (conv => whnf)
      refine RelP.g (ok1 drRd fun d => d.ws.length ≤ 100000 ∧ d.ks.length ≤ 100000) (x := d) ⟨_, rfl, drRd.grow hG4 hdrG, by omega, by omega⟩ (Grow.refl _) (fun v G5 hg5 hq5 => W.mk ?_)
      obtain ⟨_, _, rfl, ⟨_, _, _, rfl, _, _⟩, ⟨_, _, _, rfl, _, _⟩⟩ := id hq5
      (conv => whnf)
      obtain ⟨wv, hwv⟩ : ∃ wv, wv = [] ++ vs ++ [Value.int IntKind.i64 0, I more.a, I more.c, Value.slice pa pn pc] := ⟨_, rfl⟩
      obtain ⟨mr, hmr⟩ : ∃ mr : Sp, mr = ⟨0, more.a, more.c, more.put⟩ := ⟨_, rfl⟩
      have hput1 : SlV strE G1 (.slice pa pn pc) more.put := SlV.grow hg1 (hput.v (by omega))
      have hwvs := spv_snoc (G := G1) (vs := vs) (l := steps) (x := mr) (us := [Value.int IntKind.i64 0, I more.a, I more.c, Value.slice pa pn pc]) v1 v4 rfl ⟨_, by rw [hmr], by rw [hmr]; exact hput1⟩
      have hwl : (vs ++ [Value.int IntKind.i64 0, I more.a, I more.c, Value.slice pa pn pc]).length = (n + 1) * 4 := by rw [List.length_append, v1, hlen]; simp; omega
      have hfm : FineS (steps ++ [mr]) := fun x hx => by
        rcases List.mem_append.1 hx with hx | hx
        · exact thin_fine hthin x hx
        · have : x = mr := by simpa using hx
          rw [this, hmr]
          exact ⟨by show more.put.length ≤ _; omega, fun s hs => by have := s1 s hs; omega⟩
      have hlm : (steps ++ [mr]).length = n + 1 := by rw [List.length_append, hlen]; rfl
      refine PubP.opn (by omega) (fun bb cap rest g1 g2 g3 => W.mk ?_)
      (conv => whnf)
      refine CallN.mk ⟨_, steps18l (steps ++ [mr]) (by omega) hfm, body18, W.mk ?_⟩
      (conv => whnf)
      have hwo : ∀ v ∈ [] ++ vs ++ [Value.int IntKind.i64 0, I more.a, I more.c, Value.slice pa pn pc], v.oneCell' = true := fun v hv => by
        rw [List.nil_append] at hv
        rcases List.mem_append.1 hv with hv | hv
        · exact v3 v hv
        · simp only [List.mem_cons, List.not_mem_nil, or_false] at hv
          rcases hv with rfl | rfl | rfl | rfl <;> rfl
      refine StP.mk ⟨[(45, ⟨bb, false, .row (0 + n + 1) (0 + n + 1) cap ([] ++ vs ++ [Value.int IntKind.i64 0, I more.a, I more.c, Value.slice pa pn pc]) rest 61 4⟩)], ⟨⟨_, _, rfl, rfl, Nat.le_refl _, by rw [List.nil_append, hwl, Nat.zero_add], g3, g1, g2, hwo⟩, trivial⟩, by simp, ⟨bb, _, cap, _, rest, rfl, rfl, by omega, fun i hi => ⟨by rw [List.nil_append]; exact (hwvs i hi).1, by rw [List.nil_append]; exact SpC.grow _ _ (hG4.trans hg5) (hwvs i hi).2⟩⟩, fun v ns G6 hg6 hpost => W.mk ?_⟩
      obtain ⟨rfl, hq6⟩ := hpost
      obtain ⟨_, _, _, rfl, _, _⟩ := id hq6
      have hG6 := hG4.trans (hg5.trans hg6)
      (conv => whnf)
      refine RelP.g (ok2 drRd spsRd fun _ _ => True) (x := (d, steps ++ [mr])) ⟨_, _, rfl, drRd.grow hg6 hq5, hq6, trivial⟩ (Grow.refl _) (fun v G7 hg7 hq => W.mk ?_)
      have hstepf : stepF d S mr = changeF d S mr := by unfold stepF; rw [hmr, if_pos rfl]
      have he1 := endF_app (more := [mr]) hS (by show _ + 1 ≤ 80; omega)
      obtain ⟨ur, hur⟩ : ∃ ur : Sp, ur = ⟨S.ch + 1, 0, 0, []⟩ := ⟨_, rfl⟩
      have he2 := endF_app (more := [mr, ur]) hS (by show _ + 2 ≤ 80; omega)
      have happ : steps ++ [mr, ur] = steps ++ [mr] ++ [ur] := by simp
      have hstepu : ∀ S1, stepF d S1 ur = undoF S1 (S.ch + 1) := fun S1 => by
        have := hrch.pos.1
        unfold stepF
        rw [hur, if_neg (by show ¬ S.ch + 1 = 0; omega)]
      simp only [playF, hstepf, hstepu] at he1 he2
      unfold showR at hq
      dsimp only at hq
      rw [he1] at hq
      have hG7 := hG6.trans hg7
      cases hchg : changeF d S mr with
      | none =>
        rw [hchg] at hq he2
        dsimp only at hq he2
        subst hq
        (conv => whnf)
        refine RelP.g (ok1 drRd fun d => d.ws.length ≤ 100000 ∧ d.ks.length ≤ 100000) (x := d) ⟨_, rfl, drRd.grow hG7 hdrG, by omega, by omega⟩ (Grow.refl _) (fun v G8 hg8 hq8 => W.mk ?_)
        obtain ⟨_, _, rfl, ⟨_, _, _, rfl, _, _⟩, ⟨_, _, _, rfl, _, _⟩⟩ := id hq8
        (conv => whnf)
        repeat' (refine ob ?_ ?_; (first | trivial | omega | (simp only [inR]; omega) | exact ble (by rfl) | exact SlR.some ‹_› (by omega)); (conv => whnf))
        refine ForgP.drop (W.mk ?_)
        (conv => whnf)
        repeat' (refine ob ?_ ?_; (first | trivial | omega | (simp only [inR]; omega) | exact ble (by rfl) | exact SlR.some ‹_› (by omega)); (conv => whnf))
        refine PubP.mk (fun qa qc G9 hg9 hp9 => W.mk ?_)
        (conv => whnf)
        have hG9 := hG7.trans (hg8.trans hg9)
        have hS9 : spsRd.R G9 (.slice qa (0 + n + 1 + 1) qc) (steps ++ [mr] ++ [ur]) := by
          refine ⟨_, _, _, rfl, ?_, by unfold maxLen; omega⟩
          refine sps_snoc (vs := [] ++ vs ++ [Value.int IntKind.i64 0, I more.a, I more.c, Value.slice pa pn pc]) (us := [I ((m : Int) + 1), I 0, I 0, .slice none 0 0]) (by rw [hlm, Nat.zero_add]) (by rw [Nat.zero_add]; rw [Nat.zero_add] at hp9; exact hp9) (by rw [List.nil_append, hwl, Nat.zero_add]) (fun i hi => ⟨by rw [List.nil_append]; exact (hwvs i hi).1, by rw [List.nil_append]; exact SpC.grow _ _ hG9 (hwvs i hi).2⟩) rfl ⟨_, by rw [hur, hch, hm], by rw [hur]; exact SlV.nil⟩
        refine CallN.mk ⟨_, steps18, body18, W.mk ?_⟩
        (conv => whnf)
        refine RelP.g (ok1 spsRd fun l => l.length ≤ 100000 ∧ FineS l) (x := steps ++ [mr] ++ [ur]) ⟨_, rfl, hS9, by show (_ ++ [ur]).length ≤ _; rw [List.length_append, hlm]; simp; omega, fun x hx => by
          rcases List.mem_append.1 hx with hx | hx
          · exact hfm x hx
          · have : x = ur := by simpa using hx
            rw [this, hur]; exact ⟨Nat.zero_le _, fun s hs => by cases hs⟩⟩ (Grow.refl _) (fun v G10 hg10 hq10 => W.mk ?_)
        obtain ⟨_, _, _, rfl, _, _⟩ := id hq10
        (conv => whnf)
        refine RelP.g (ok2 drRd spsRd fun _ _ => True) (x := (d, steps ++ [mr] ++ [ur])) ⟨_, _, rfl, drRd.grow (hg9.trans hg10) hq8, hq10, trivial⟩ (Grow.refl _) (fun v G11 hg11 hq => W.mk ?_)
        rw [← happ] at hq
        unfold showR at hq
        dsimp only at hq
        rw [he2] at hq
        dsimp only at hq
        subst hq
        (conv => whnf)
        (refine IteP.mk (fun _ => W.mk ?_) (fun _ => W.mk ?_) <;> first | (exfalso; omega) | (conv => whnf))
        (refine IteP.mk (fun _ => W.mk ?_) (fun _ => W.mk ?_) <;> first | (exfalso; omega) | (conv => whnf))
        (refine IteP.mk (fun _ => W.mk ?_) (fun _ => W.mk ?_) <;> first | (exfalso; omega) | (conv => whnf))
        (refine IteP.mk (fun _ => W.mk ?_) (fun _ => W.mk ?_) <;> first | (exfalso; omega) | (conv => whnf))
        (refine IteP.mk (fun _ => W.mk ?_) (fun _ => W.mk ?_) <;> first | (exfalso; omega) | (conv => whnf))
        (refine ScaP.g okU (G := fun _ => none) (x := ()) rfl (fun v hv => W.mk ?_); subst hv; (conv => whnf); refine ForkP.mk (fun _ => W.mk ?_) (fun h => by cases h); (conv => whnf); exact FinP.mk rfl)
      | some S1 =>
        obtain ⟨c1, c2⟩ := undo_change hrch hchg
        rw [hchg] at hq he2
        dsimp only at hq he2
        rw [c2] at he2
        dsimp only at he2
        obtain ⟨ya, yb, rfl, hy1, hy2⟩ := hq
        obtain ⟨_, _, _, rfl, _, _⟩ := id hy1
        obtain ⟨_, _, _, rfl, _, _⟩ := id hy2
        (conv => whnf)
        refine RelP.g (ok1 drRd fun d => d.ws.length ≤ 100000 ∧ d.ks.length ≤ 100000) (x := d) ⟨_, rfl, drRd.grow hG7 hdrG, by omega, by omega⟩ (Grow.refl _) (fun v G8 hg8 hq8 => W.mk ?_)
        obtain ⟨_, _, rfl, ⟨_, _, _, rfl, _, _⟩, ⟨_, _, _, rfl, _, _⟩⟩ := id hq8
        (conv => whnf)
        repeat' (refine ob ?_ ?_; (first | trivial | omega | (simp only [inR]; omega) | exact ble (by rfl) | exact SlR.some ‹_› (by omega)); (conv => whnf))
        refine ForgP.drop (W.mk ?_)
        (conv => whnf)
        repeat' (refine ob ?_ ?_; (first | trivial | omega | (simp only [inR]; omega) | exact ble (by rfl) | exact SlR.some ‹_› (by omega)); (conv => whnf))
        refine PubP.mk (fun qa qc G9 hg9 hp9 => W.mk ?_)
        (conv => whnf)
        have hG9 := hG7.trans (hg8.trans hg9)
        have hS9 : spsRd.R G9 (.slice qa (0 + n + 1 + 1) qc) (steps ++ [mr] ++ [ur]) := by
          refine ⟨_, _, _, rfl, ?_, by unfold maxLen; omega⟩
          refine sps_snoc (vs := [] ++ vs ++ [Value.int IntKind.i64 0, I more.a, I more.c, Value.slice pa pn pc]) (us := [I ((m : Int) + 1), I 0, I 0, .slice none 0 0]) (by rw [hlm, Nat.zero_add]) (by rw [Nat.zero_add]; rw [Nat.zero_add] at hp9; exact hp9) (by rw [List.nil_append, hwl, Nat.zero_add]) (fun i hi => ⟨by rw [List.nil_append]; exact (hwvs i hi).1, by rw [List.nil_append]; exact SpC.grow _ _ hG9 (hwvs i hi).2⟩) rfl ⟨_, by rw [hur, hch, hm], by rw [hur]; exact SlV.nil⟩
        refine CallN.mk ⟨_, steps18, body18, W.mk ?_⟩
        (conv => whnf)
        refine RelP.g (ok1 spsRd fun l => l.length ≤ 100000 ∧ FineS l) (x := steps ++ [mr] ++ [ur]) ⟨_, rfl, hS9, by show (_ ++ [ur]).length ≤ _; rw [List.length_append, hlm]; simp; omega, fun x hx => by
          rcases List.mem_append.1 hx with hx | hx
          · exact hfm x hx
          · have : x = ur := by simpa using hx
            rw [this, hur]; exact ⟨Nat.zero_le _, fun s hs => by cases hs⟩⟩ (Grow.refl _) (fun v G10 hg10 hq10 => W.mk ?_)
        obtain ⟨_, _, _, rfl, _, _⟩ := id hq10
        (conv => whnf)
        refine RelP.g (ok2 drRd spsRd fun _ _ => True) (x := (d, steps ++ [mr] ++ [ur])) ⟨_, _, rfl, drRd.grow (hg9.trans hg10) hq8, hq10, trivial⟩ (Grow.refl _) (fun v G11 hg11 hq => W.mk ?_)
        rw [← happ] at hq
        unfold showR at hq
        dsimp only at hq
        rw [he2] at hq
        dsimp only at hq
        obtain ⟨za, zb, rfl, hz1, hz2⟩ := hq
        obtain ⟨za1, zn1, zc1, rfl, hzl, _⟩ := id hz1
        obtain ⟨_, _, _, rfl, _, _⟩ := id hz2
        (conv => whnf)
        (refine IteP.mk (fun _ => W.mk ?_) (fun _ => W.mk ?_) <;> first | (exfalso; omega) | (conv => whnf))
        (refine IteP.mk (fun _ => W.mk ?_) (fun _ => W.mk ?_) <;> first | (exfalso; omega) | (conv => whnf))
        (refine IteP.mk (fun _ => W.mk ?_) (fun _ => W.mk ?_) <;> first | (exfalso; omega) | (conv => whnf))
        (refine IteP.mk (fun _ => W.mk ?_) (fun _ => W.mk ?_) <;> first | (exfalso; omega) | (conv => whnf))
        have hz1 : SlV viE G11 (.slice za1 zn1 zc1) (shownF S) := hz1
        have hzl : SlR viE.k viE.R G11 za1 zn1 zc1 (shownF S) := hzl
        have hz2 : SlV intE G11 _ S.live := hz2
        have hn1 := hl.len
        have hn2 := hzl.len
        have hGx := hg5.trans (hg6.trans (hg7.trans (hg8.trans (hg9.trans (hg10.trans hg11)))))
        (refine IteP.mk (fun _ => W.mk ?_) (fun _ => W.mk ?_) <;> first | (exfalso; omega) | (conv => whnf))
        refine ScaP.g (ok2 (slRd intE) (slRd intE) fun _ _ => True) (x := (S.live, S.live)) ⟨_, _, rfl, hx2.grow hGx, hz2, trivial⟩ (fun v hv2 => W.mk ?_)
        have hv2 : v = .bool true := hv2.trans (congrArg Value.bool (decide_eq_true rfl))
        subst hv2
        (conv => whnf)
        refine ForkP.mk (fun _ => W.mk ?_) (fun h => by cases h)
        (conv => whnf)
        have hlG := SlR.grow (G := G4) (G' := G11) (fun _ _ h => h) hl hGx
        refine LoopP.of { α := Nat, fr := fun x => [(10, .v (.slice la ln lc)), (18, .v (.slice za1 zn1 zc1)), (22, .v (I x))], H := fun _ => [], ok := fun i _ => i ≤ (shownF S).length, m := fun x => (shownF S).length - x }
          0 (HeadP.of [] ⟨rfl, rfl, rfl, trivial⟩ trivial) (Nat.zero_le _) (fun _ => ⟨rfl, rfl⟩) (fun (j : Nat) G12 hg12 (hj : j ≤ _) => W.mk ?_)
        dsimp only
        (conv => whnf)
        refine IteP.mk (fun hlt3 => W.mk ?_) (fun hge3 => W.mk ?_) <;> (conv => whnf)
        · have hj1 : j < (shownF S).length := by omega
          have q1 := (SlR.grow (G := G11) (G' := G12) (fun _ _ h => h) hlG hg12).el hj1
          have q2 := (SlR.grow (G := G11) (G' := G12) (fun _ _ h => h) hzl hg12).el hj1
          generalize (shownF S)[j] = y at q1 q2
          repeat' (first | (refine ob ?_ ?_; (first | trivial | omega | (simp only [inR]; omega) | exact ble (by rfl) | exact SlR.some ‹_› (by omega)); (conv => whnf)) | (first | (refine ra ‹_› (by rfl) ?_; (conv => whnf)) | (refine rb ‹_› (by rfl) ?_; (conv => whnf)) | (refine rc ‹_› (by rfl) ?_; (conv => whnf)) | (refine rd ‹_› (by rfl) ?_; (conv => whnf))))
          refine PurP.of _ (pur_neItem y y) (W.mk ?_)
          (conv => whnf)
          refine ForkP.mk (fun h3 => W.mk ?_) (fun h3 => W.mk ?_) <;> (conv => whnf)
          · simp at h3
          · repeat' (refine ob ?_ ?_; (first | trivial | omega | (simp only [inR]; omega) | exact ble (by rfl) | exact SlR.some ‹_› (by omega)); (conv => whnf))
            exact RoundP.of (j + 1) (HeadP.of [] ⟨rfl, rfl, rfl, trivial⟩ trivial) hj1 (by simp only; omega)
        · (refine ScaP.g okU (G := fun _ => none) (x := ()) rfl (fun v hv => W.mk ?_); subst hv; (conv => whnf); refine ForkP.mk (fun _ => W.mk ?_) (fun h => by cases h); (conv => whnf); exact FinP.mk rfl)
end Go.Proofs.YtfppbjfbghaclaaGreat
