/- Layer 9: an order's words are hidden. Layer 9: the library's maps.Keys, slices.Sort and slices.Sorted: the kit's contracts laid at this program (the layings are printed by the kit's tool). Layer 9: maps of numbers, their keys, sorted. Layer 9: all, ContainsFunc, IndexFunc at three types, for any test. (printed by a program of mine) Layer 9: whether a report is valid (the program). -/
import Derived.Test.YtpcpjmplgladmaaMF
import Derived.Test.YtpcpjmplgladmaaMC
import Derived.Shelf.SlIterI.Nil
import Derived.Shelf.SortM.Plain
import Derived.Shelf.SortM.SortNone
import Derived.Test.YtpcpjmplgladmaaProg
import Derived.Test.YtpcpjmplgladmaaME
set_option linter.unusedSimpArgs false
set_option linter.unusedVariables false
namespace Go.Proofs.Ytpcpjmplgladmaa
open Go.Pal
set_option maxRecDepth 100000
theorem den_set_eq {P : Program} {hid : Nat} {Gr G : Hp} {K : SV → List (Nat × Option OB) → Hp → Prop} {h : Nat} {s : Nm} {cs cs' : List S1} {t : TypeId} {sv : SV} (e : cs = cs') (hk : Res.den P hid Gr G K (.set h (.cells s cs' t) sv)) : Res.den P hid Gr G K (.set h (.cells s cs t) sv) := by
  subst e; exact hk
theorem toValsH_map (H : Nat → Option OB) : ∀ vs : List Value, toValsH H (vs.map .val) = some vs
  | [] => rfl
  | v :: vs => by simp only [List.map_cons, toValsH, S1.toValH, toValsH_map H vs]
theorem vll_set {ps : List Value} {p : Nat → Bool} {off k : Nat} (ho : off = ps.length + k) (hk : k < 60) :
    (((ps ++ vll p).map S1.val).take off ++ [S1.val (.bool true)] ++ ((ps ++ vll p).map S1.val).drop (off + 1)) = (ps ++ vll (fun j => p j || decide (j = k))).map S1.val := by
  subst ho
  have e : ∀ l : List S1, k < 60 → l.length = ps.length + 60 → l.take (ps.length + k) ++ [S1.val (.bool true)] ++ l.drop (ps.length + k + 1) = l.set (ps.length + k) (S1.val (.bool true)) := fun l h1 h2 => by
    rw [List.set_eq_take_append_cons_drop, if_pos (by omega)]
    simp
  rw [e _ hk (by simp)]
  apply List.ext_getElem?
  intro i
  rw [List.getElem?_set]
  split
  · rename_i hi
    subst hi
    rw [if_pos (by simp; omega)]
    rw [List.getElem?_map, List.getElem?_append_right (by omega), Nat.add_sub_cancel_left, vll_get hk]
    simp
  · rename_i hi
    rw [List.getElem?_map, List.getElem?_map]
    by_cases hlt : i < ps.length
    · rw [List.getElem?_append_left hlt, List.getElem?_append_left hlt]
    · rw [List.getElem?_append_right (by omega), List.getElem?_append_right (by omega)]
      by_cases h60 : i - ps.length < 60
      · rw [vll_get h60, vll_get h60, decide_eq_false (by omega : ¬ i - ps.length = k), Bool.or_false]
      · rw [List.getElem?_eq_none (by simp; omega), List.getElem?_eq_none (by simp; omega)]
def hideF (p : Nat → Bool) (o : Od) : Nat → Bool := fun i => p i || (decide (o.f ≤ (i : Int)) && decide ((i : Int) < o.t))
abbrev odV (o : Od) : Value := .agg #[I o.f, I o.t, I o.k, I o.u]
theorem hideF_none (p : Nat → Bool) (f k u : Int) : hideF p ⟨f, f + ((0 : Nat) : Int), k, u⟩ = p := by
  funext i
  simp only [hideF]
  have : (decide (f ≤ (i : Int)) && decide ((i : Int) < f + ((0 : Nat) : Int))) = false := by
    simp only [Bool.and_eq_false_iff, decide_eq_false_iff_not]; omega
  rw [this, Bool.or_false]
theorem hideF_step (p : Nat → Bool) (f k u : Int) (x n : Nat) (hn : (n : Int) = f + x) (h0 : 0 ≤ f) : (fun j => hideF p ⟨f, f + x, k, u⟩ j || decide (j = n)) = hideF p ⟨f, f + ((x + 1 : Nat) : Int), k, u⟩ := by
  funext i
  simp only [hideF, Bool.or_assoc]
  congr 1
  rw [Bool.eq_iff_iff]
  simp only [Bool.or_eq_true, Bool.and_eq_true, decide_eq_true_eq]
  omega
theorem hide69 (w0 w1 w2 w3 w4 : Value) (t : TypeId) (b : Nat) (p : Nat → Bool) (o : Od) (h0 : 0 ≤ o.f) (hft : o.f ≤ o.t) (h60 : o.t ≤ 60) : Sound Try.prog 69 id (.st (fun args ls _ => args = [.pointer (some ⟨b, 5, none⟩), odV o] ∧ ls = [⟨b, true, .cells ([w0, w1, w2, w3, w4] ++ vll p) t⟩]) (fun _ _ v ns _ => v = .tuple #[] ∧ ns = [.cells ([w0, w1, w2, w3, w4] ++ vll (hideF p o)) t])) := by
  refine ⟨fun args ls v ns G G' hg h => h, fun args ls G Wd hsub hls hnd hpre => ?_⟩
  obtain ⟨rfl, rfl⟩ := hpre
  refine st_sound (Tab.nil _) comp69 (svs := [.c (.ptr 0 5), .v (odV o)]) (obs := [.cells (.named b) (([w0, w1, w2, w3, w4] ++ vll p).map .val) t]) (by simp) hsub hls hnd (Nat.le_of_ble_eq_true rfl) ?_ ?_ ?_
  · exact ⟨⟨b, rfl, rfl⟩, (Nat.le_of_ble_eq_true rfl : 0 < 1), rfl, trivial, trivial⟩
  · exact ⟨⟨_, rfl, relL_vals _ _, fun c hc => by obtain ⟨v, _, rfl⟩ := List.mem_map.1 hc; trivial⟩, trivial⟩
  · (conv => whnf)
    refine LoopP.of { α := Nat, fr := fun x => [(0, .c (.ptr 0 5)), (3, .c (.ptr 1 0)), (4, .v (I (o.f + x)))], H := fun x => [(0, .cells (.named b) (([w0, w1, w2, w3, w4] ++ vll (hideF p ⟨o.f, o.f + x, o.k, o.u⟩)).map .val) t), (1, .cells .anon [.val (I o.f), .val (I o.t), .val (I o.k), .val (I o.u)] 65)], ok := fun x _ => o.f + x ≤ o.t, m := fun x => (o.t - o.f).toNat - x }
      0 (HeadP.of [] ⟨rfl, rfl, (by show (_ : SV) = SV.c (S1.val (I o.f)); simp), trivial⟩ ⟨(by
        rw [hideF_none]; rfl), rfl, trivial⟩) (by simpa using hft) (fun _ => ⟨rfl, rfl⟩) (fun (x : Nat) G' hG hx => W.mk ?_)
    have hx : o.f + x ≤ o.t := hx
    dsimp only
    (conv => whnf)
    refine IteP.mk (fun hlt => W.mk ?_) (fun hge => W.mk ?_) <;> (conv => whnf)
    · have hlt : o.f + x < o.t := hlt
      obtain ⟨n, hn⟩ : ∃ n : Nat, (n : Int) = o.f + x := ⟨(o.f + x).toNat, by omega⟩
      rw [← hn]
      have hn60 : n < 60 := by omega
      refine OblP.mk (by omega) (W.mk ?_); (conv => whnf)
      refine OblP.mk (by show 5 + (n : Int).toNat * 1 + 1 ≤ List.length _; simp; omega) (W.mk ?_)
      refine den_set_eq (vll_set (ps := [w0, w1, w2, w3, w4]) (p := hideF p ⟨o.f, (n : Int), o.k, o.u⟩) (off := 5 + (n : Int).toNat * 1) (k := n) (by simp) hn60) ?_
      have hst : (fun j => hideF p ⟨o.f, (n : Int), o.k, o.u⟩ j || decide (j = n)) = hideF p ⟨o.f, o.f + ((x + 1 : Nat) : Int), o.k, o.u⟩ := by
        rw [hn]; exact hideF_step p o.f o.k o.u x n hn h0
      rw [hst]
      (conv => whnf)
      refine OblP.mk (by simp only [inR]; omega) (W.mk ?_); (conv => whnf)
      refine RoundP.of (x + 1) (HeadP.of [] ⟨rfl, rfl, (by show (_ : SV) = _; congr 3; omega), trivial⟩ ⟨rfl, rfl, trivial⟩) (by show o.f + ((x + 1 : Nat) : Int) ≤ o.t; omega) (by simp only; omega)
    · have hge : ¬ o.f + x < o.t := hge
      have he : o.t = o.f + x := by omega
      refine FinS.mk ⟨[.cells ([w0, w1, w2, w3, w4] ++ vll (hideF p ⟨o.f, o.f + x, o.k, o.u⟩)) t], ⟨.cells ([w0, w1, w2, w3, w4] ++ vll (hideF p ⟨o.f, o.f + x, o.k, o.u⟩)) t, ⟨_, rfl, rfl⟩, trivial, [], rfl, rfl⟩, rfl, ?_⟩
      rw [← he]
theorem hide69n (t : TypeId) (b : Nat) (p : Nat → Bool) (o : Od) (h0 : 0 ≤ o.f) (hft : o.f ≤ o.t) (h60 : o.t ≤ 60) : Sound Try.prog 69 id (.st (fun args ls _ => args = [.pointer (some ⟨b, 0, none⟩), odV o] ∧ ls = [⟨b, true, .cells (([] : List Value) ++ vll p) t⟩]) (fun _ _ v ns _ => v = .tuple #[] ∧ ns = [.cells (([] : List Value) ++ vll (hideF p o)) t])) := by
  refine ⟨fun args ls v ns G G' hg h => h, fun args ls G Wd hsub hls hnd hpre => ?_⟩
  obtain ⟨rfl, rfl⟩ := hpre
  refine st_sound (Tab.nil _) comp69 (svs := [.c (.ptr 0 0), .v (odV o)]) (obs := [.cells (.named b) ((([] : List Value) ++ vll p).map .val) t]) (by simp) hsub hls hnd (Nat.le_of_ble_eq_true rfl) ?_ ?_ ?_
  · exact ⟨⟨b, rfl, rfl⟩, (Nat.le_of_ble_eq_true rfl : 0 < 1), rfl, trivial, trivial⟩
  · exact ⟨⟨_, rfl, relL_vals _ _, fun c hc => by obtain ⟨v, _, rfl⟩ := List.mem_map.1 hc; trivial⟩, trivial⟩
  · (conv => whnf)
    refine LoopP.of { α := Nat, fr := fun x => [(0, .c (.ptr 0 0)), (3, .c (.ptr 1 0)), (4, .v (I (o.f + x)))], H := fun x => [(0, .cells (.named b) ((([] : List Value) ++ vll (hideF p ⟨o.f, o.f + x, o.k, o.u⟩)).map .val) t), (1, .cells .anon [.val (I o.f), .val (I o.t), .val (I o.k), .val (I o.u)] 65)], ok := fun x _ => o.f + x ≤ o.t, m := fun x => (o.t - o.f).toNat - x }
      0 (HeadP.of [] ⟨rfl, rfl, (by show (_ : SV) = SV.c (S1.val (I o.f)); simp), trivial⟩ ⟨(by
        rw [hideF_none]; rfl), rfl, trivial⟩) (by simpa using hft) (fun _ => ⟨rfl, rfl⟩) (fun (x : Nat) G' hG hx => W.mk ?_)
    have hx : o.f + x ≤ o.t := hx
    dsimp only
    (conv => whnf)
    refine IteP.mk (fun hlt => W.mk ?_) (fun hge => W.mk ?_) <;> (conv => whnf)
    · have hlt : o.f + x < o.t := hlt
      obtain ⟨n, hn⟩ : ∃ n : Nat, (n : Int) = o.f + x := ⟨(o.f + x).toNat, by omega⟩
      rw [← hn]
      have hn60 : n < 60 := by omega
      refine OblP.mk (by omega) (W.mk ?_); (conv => whnf)
      refine OblP.mk (by show 0 + (n : Int).toNat * 1 + 1 ≤ List.length _; simp; omega) (W.mk ?_)
      refine den_set_eq (vll_set (ps := ([] : List Value)) (p := hideF p ⟨o.f, (n : Int), o.k, o.u⟩) (off := 0 + (n : Int).toNat * 1) (k := n) (by simp) hn60) ?_
      have hst : (fun j => hideF p ⟨o.f, (n : Int), o.k, o.u⟩ j || decide (j = n)) = hideF p ⟨o.f, o.f + ((x + 1 : Nat) : Int), o.k, o.u⟩ := by
        rw [hn]; exact hideF_step p o.f o.k o.u x n hn h0
      rw [hst]
      (conv => whnf)
      refine OblP.mk (by simp only [inR]; omega) (W.mk ?_); (conv => whnf)
      refine RoundP.of (x + 1) (HeadP.of [] ⟨rfl, rfl, (by show (_ : SV) = _; congr 3; omega), trivial⟩ ⟨rfl, rfl, trivial⟩) (by show o.f + ((x + 1 : Nat) : Int) ≤ o.t; omega) (by simp only; omega)
    · have hge : ¬ o.f + x < o.t := hge
      have he : o.t = o.f + x := by omega
      refine FinS.mk ⟨[.cells (([] : List Value) ++ vll (hideF p ⟨o.f, o.f + x, o.k, o.u⟩)) t], ⟨.cells (([] : List Value) ++ vll (hideF p ⟨o.f, o.f + x, o.k, o.u⟩)) t, ⟨_, rfl, rfl⟩, trivial, [], rfl, rfl⟩, rfl, ?_⟩
      rw [← he]
end Go.Proofs.Ytpcpjmplgladmaa

namespace Go.Proofs.Ytpcpjmplgladmaa
open Go.Shelf
def keysA_ren : Go.Shelf.Ren := ⟨fun | 7 => 48 | 10 => 74 | n => n, fun | 23 => 100 | 26 => 3 | 3 => 26 | 28 => 107 | 0 => 0 | 27 => 106 | 33 => 114 | 4 => 4 | n => n, fun | n => n⟩
theorem keysA : SlLaysZI.n7 Try.prog keysA_ren := {
  mixed := by kernel_rfl
  f7 := ⟨Try.f48.name, by decide, Try.func48.trans (congrArg some (by kernel_rfl))⟩
  f10 := ⟨Try.f74.name, by decide, Try.func74.trans (congrArg some (by kernel_rfl))⟩
  t0 := Try.underlying0
  a0 := Try.isAgg0
  z0 := Try.sizeOf0
  v0 := Try.zeroValue0
  t4 := Try.underlying4
  a4 := Try.isAgg4
  z4 := Try.sizeOf4
  v4 := Try.zeroValue4
  t23 := Try.underlying100
  a23 := Try.isAgg100
  z23 := Try.sizeOf100
  v23 := Try.zeroValue100
  t26 := Try.underlying3
  a26 := Try.isAgg3
  z26 := Try.sizeOf3
  v26 := Try.zeroValue3
  t27 := Try.underlying106
  a27 := Try.isAgg106
  z27 := Try.sizeOf106
  v27 := Try.zeroValue106
  t28 := Try.underlying107
  a28 := Try.isAgg107
  z28 := Try.sizeOf107
  v28 := Try.zeroValue107
  t33 := Try.underlying114
  a33 := Try.isAgg114
  z33 := Try.sizeOf114
  v33 := Try.zeroValue114 }
def sortedA_ren : Go.Shelf.Ren := ⟨fun | 6 => 47 | 8 => 72 | 9 => 73 | 11 => 82 | 13 => 84 | 12 => 83 | 23 => 98 | 24 => 99 | 14 => 89 | 15 => 90 | 16 => 91 | 17 => 92 | 18 => 93 | 19 => 94 | 20 => 95 | 21 => 96 | 22 => 97 | 25 => 101 | 26 => 102 | 27 => 103 | 28 => 104 | 29 => 105 | 30 => 106 | 31 => 107 | n => n, fun | 26 => 3 | 28 => 107 | 24 => 26 | 0 => 0 | 3 => 3 | 37 => 122 | 48 => 146 | 50 => 148 | 4 => 4 | 40 => 139 | 39 => 138 | 45 => 143 | 5 => 5 | 9 => 9 | 51 => 150 | 55 => 154 | 57 => 156 | 58 => 157 | 33 => 114 | n => n, fun | n => n⟩
theorem sortedA : SlLaysZI.n6 Try.prog sortedA_ren := {
  mixed := by kernel_rfl
  f6 := ⟨Try.f47.name, by decide, Try.func47.trans (congrArg some (by kernel_rfl))⟩
  f8 := ⟨Try.f72.name, by decide, Try.func72.trans (congrArg some (by kernel_rfl))⟩
  f11 := ⟨Try.f82.name, by decide, Try.func82.trans (congrArg some (by kernel_rfl))⟩
  t0 := Try.underlying0
  a0 := Try.isAgg0
  z0 := Try.sizeOf0
  v0 := Try.zeroValue0
  t24 := Try.underlying26
  a24 := Try.isAgg26
  z24 := Try.sizeOf26
  v24 := Try.zeroValue26
  t26 := Try.underlying3
  a26 := Try.isAgg3
  z26 := Try.sizeOf3
  v26 := Try.zeroValue3
  t28 := Try.underlying107
  a28 := Try.isAgg107
  z28 := Try.sizeOf107
  v28 := Try.zeroValue107
  i26 := by kernel_rfl }
def sortA_ren : Go.Shelf.Ren := ⟨fun | 5 => 73 | 8 => 84 | 7 => 83 | 19 => 98 | 20 => 99 | 10 => 89 | 11 => 90 | 12 => 91 | 13 => 92 | 14 => 93 | 15 => 94 | 16 => 95 | 17 => 96 | 18 => 97 | 30 => 101 | 31 => 102 | 32 => 103 | 33 => 104 | 34 => 105 | 35 => 106 | 40 => 107 | n => n, fun | 23 => 26 | 25 => 3 | 3 => 3 | 32 => 122 | 22 => 26 | 0 => 0 | 44 => 146 | 46 => 148 | 4 => 4 | 36 => 139 | 35 => 138 | 41 => 143 | 5 => 5 | 9 => 9 | 53 => 150 | 57 => 154 | 63 => 156 | 64 => 157 | n => n, fun | n => n⟩
theorem sortA : SlLaysM.n5 Try.prog sortA_ren := {
  mixed := by kernel_rfl
  f5 := ⟨Try.f73.name, by decide, Try.func73.trans (congrArg some (by kernel_rfl))⟩
  f7 := ⟨Try.f83.name, by decide, Try.func83.trans (congrArg some (by kernel_rfl))⟩
  f8 := Try.func84.trans (congrArg some (by kernel_rfl))
  f10 := ⟨Try.f89.name, by decide, Try.func89.trans (congrArg some (by kernel_rfl))⟩
  f11 := ⟨Try.f90.name, by decide, Try.func90.trans (congrArg some (by kernel_rfl))⟩
  f12 := ⟨Try.f91.name, by decide, Try.func91.trans (congrArg some (by kernel_rfl))⟩
  f13 := ⟨Try.f92.name, by decide, Try.func92.trans (congrArg some (by kernel_rfl))⟩
  f14 := ⟨Try.f93.name, by decide, Try.func93.trans (congrArg some (by kernel_rfl))⟩
  f15 := ⟨Try.f94.name, by decide, Try.func94.trans (congrArg some (by kernel_rfl))⟩
  f16 := ⟨Try.f95.name, by decide, Try.func95.trans (congrArg some (by kernel_rfl))⟩
  f17 := ⟨Try.f96.name, by decide, Try.func96.trans (congrArg some (by kernel_rfl))⟩
  f18 := ⟨Try.f97.name, by decide, Try.func97.trans (congrArg some (by kernel_rfl))⟩
  f19 := Try.func98.trans (congrArg some (by kernel_rfl))
  f20 := Try.func99.trans (congrArg some (by kernel_rfl))
  f30 := ⟨Try.f101.name, by decide, Try.func101.trans (congrArg some (by kernel_rfl))⟩
  f31 := Try.func102.trans (congrArg some (by kernel_rfl))
  f32 := Try.func103.trans (congrArg some (by kernel_rfl))
  f33 := ⟨Try.f104.name, by decide, Try.func104.trans (congrArg some (by kernel_rfl))⟩
  f34 := ⟨Try.f105.name, by decide, Try.func105.trans (congrArg some (by kernel_rfl))⟩
  f35 := ⟨Try.f106.name, by decide, Try.func106.trans (congrArg some (by kernel_rfl))⟩
  f40 := ⟨Try.f107.name, by decide, Try.func107.trans (congrArg some (by kernel_rfl))⟩
  t0 := Try.underlying0
  a0 := Try.isAgg0
  z0 := Try.sizeOf0
  v0 := Try.zeroValue0
  t3 := Try.underlying3
  a3 := Try.isAgg3
  z3 := Try.sizeOf3
  v3 := Try.zeroValue3
  t4 := Try.underlying4
  a4 := Try.isAgg4
  z4 := Try.sizeOf4
  v4 := Try.zeroValue4
  t5 := Try.underlying5
  a5 := Try.isAgg5
  z5 := Try.sizeOf5
  v5 := Try.zeroValue5
  t9 := Try.underlying9
  a9 := Try.isAgg9
  z9 := Try.sizeOf9
  v9 := Try.zeroValue9
  t22 := Try.underlying26
  a22 := Try.isAgg26
  z22 := Try.sizeOf26
  v22 := Try.zeroValue26
  t23 := Try.underlying26
  a23 := Try.isAgg26
  z23 := Try.sizeOf26
  v23 := Try.zeroValue26
  t25 := Try.underlying3
  a25 := Try.isAgg3
  z25 := Try.sizeOf3
  v25 := Try.zeroValue3
  t32 := Try.underlying122
  a32 := Try.isAgg122
  z32 := Try.sizeOf122
  v32 := Try.zeroValue122
  t35 := Try.underlying138
  a35 := Try.isAgg138
  z35 := Try.sizeOf138
  v35 := Try.zeroValue138
  t36 := Try.underlying139
  a36 := Try.isAgg139
  z36 := Try.sizeOf139
  v36 := Try.zeroValue139
  t41 := Try.underlying143
  a41 := Try.isAgg143
  z41 := Try.sizeOf143
  v41 := Try.zeroValue143
  t44 := Try.underlying146
  a44 := Try.isAgg146
  z44 := Try.sizeOf146
  v44 := Try.zeroValue146
  t46 := Try.underlying148
  a46 := Try.isAgg148
  z46 := Try.sizeOf148
  v46 := Try.zeroValue148
  t53 := Try.underlying150
  a53 := Try.isAgg150
  z53 := Try.sizeOf150
  v53 := Try.zeroValue150
  t57 := Try.underlying154
  a57 := Try.isAgg154
  z57 := Try.sizeOf154
  v57 := Try.zeroValue154
  t63 := Try.underlying156
  a63 := Try.isAgg156
  z63 := Try.sizeOf156
  v63 := Try.zeroValue156
  t64 := Try.underlying157
  a64 := Try.isAgg157
  z64 := Try.sizeOf157
  v64 := Try.zeroValue157 }
end Go.Proofs.Ytpcpjmplgladmaa

namespace Go.Proofs.Ytpcpjmplgladmaa
open Go.Pal Go.RowKit Go.Maps Go.Sort
set_option maxRecDepth 100000
/-- What a map of numbers holds, and that its entries are stamped. -/
structure SMap (es : Array MapEntry) (clock : Nat) (m : Int → Option Value) : Prop where
  is : MapIs Try.prog 3 I es m
  st : MapKept.Stamped es clock
  key : ∀ x, m x ≠ none → inR .i64 x
theorem und3 : Try.prog.underlying 3 = some (.int .i64) := by kernel_rfl
theorem SMap.nil : SMap #[] 0 (fun _ => none) := ⟨MapIs.nil, MapKept.stamped_empty 0, fun x h => absurd rfl h⟩
theorem SMap.find {es : Array MapEntry} {clock : Nat} {m : Int → Option Value} (h : SMap es clock m) {x : Int} (hx : inR .i64 x) :
    ∃ r, KeyFind Try.prog 3 (I x) es r ∧ (∀ z ok, lookV z ok es r = lookD z ok (m x)) ∧ ∀ v, SMap (putE es clock (I x) v r).1 (putE es clock (I x) v r).2 (fun y => if y = x then some v else m y) := by
  obtain ⟨r, h1, h2, h3⟩ := MapIs.find (Maps.int_keyed und3) (fun x y e => by cases e; rfl) h.is (Maps.keyOf_int_mk und3 (wf_i64' hx)) (by simp [Instr.sameBits])
  refine ⟨r, h1, h2, fun v => ⟨h3 clock v, ?_, fun y hy => ?_⟩⟩
  · cases r with
    | none =>
      refine MapKept.stamped_push h.st fun e he hk => ?_
      have h3' := (h3 clock v).ex
      obtain ⟨D, k1, _, k3, _⟩ := h3'
      have hkeys : (putE es clock (I x) v none).1.toList.map (·.key) = D.map fun p => I p.1 := by
        have := congrArg (List.map Prod.fst) k1
        simpa [List.map_map, Function.comp_def] using this
      have hnd : ((putE es clock (I x) v none).1.toList.map (·.key)).Nodup := by
        rw [hkeys]
        have : (D.map fun p => I p.1) = (D.map (·.1)).map I := by simp [List.map_map, Function.comp_def]
        rw [this]
        exact k3.map _ (fun a b hab e => hab (by cases e; rfl))
      simp only [putE, Array.toList_push, List.map_append, List.map_cons, List.map_nil] at hnd
      rw [List.nodup_append] at hnd
      exact hnd.2.2 _ (List.mem_map.2 ⟨e, he, rfl⟩) _ (by simp) hk
    | some i =>
      refine MapKept.stamped_modify h.st i _ (fun e _ => rfl) (fun e he hi => ?_)
      have hs := h1.same i rfl
      have hf := h1.find default
      simp only [hi, Option.map_some, Option.getD_some] at hs
      have := h.is.ex
      obtain ⟨D, k1, _⟩ := this
      have hm : (e.key, e.val) ∈ es.toList.map (fun e => (e.key, e.val)) := List.mem_map.2 ⟨e, he, rfl⟩
      rw [k1] at hm
      obtain ⟨p, hp, e1⟩ := List.mem_map.1 hm
      simp only [Prod.mk.injEq] at e1
      rw [← e1.1] at hs ⊢
      simp [Instr.sameBits] at hs
      rw [hs]
  · by_cases hyx : y = x
    · rw [hyx]; exact hx
    · rw [if_neg hyx] at hy; exact h.key y hy
/-- Numbers that rise: the keys of a map. -/
structure Asc (ss : List Int) (m : Int → Option Value) : Prop where
  lt : ss.Pairwise (· < ·)
  mem : ∀ x, x ∈ ss ↔ m x ≠ none
def anyR : Value → Option (DataW Unit × List MemPlace) := fun _ => some (.nil, [])
theorem SMap.owns {W : World} {b : Nat} {es : Array MapEntry} {clock : Nat} {m : Int → Option Value} (h : SMap es clock m) (hw : W.heap[b]? = some (.map es clock)) (hsz : es.size ≤ 100000) :
    ∃ D0 : DataW Unit, W.ownsMap Try.prog 3 anyR b es.size D0 ∧ Maps.size D0 = es.size ∧ ∀ ss : List Int, ss.Perm (intKeys D0) → ss.Nodup ∧ ∀ x, x ∈ ss ↔ m x ≠ none := by
  obtain ⟨D, k1, k2, k3, k4, k5⟩ := h.is.ex
  have hmem : ∀ e ∈ es.toList, ∃ p ∈ D, e.key = I p.1 := fun e he => by
    have : (e.key, e.val) ∈ es.toList.map (fun e => (e.key, e.val)) := List.mem_map.2 ⟨e, he, rfl⟩
    rw [k1] at this
    obtain ⟨p, hp, e1⟩ := List.mem_map.1 this
    simp only [Prod.mk.injEq] at e1
    exact ⟨p, hp, e1.1.symm⟩
  have hkey : ∀ e ∈ es.toList, ∃ x, e.key = I x ∧ keyOf Try.prog 3 e.key = some (.int .i64 x) := fun e he => by
    obtain ⟨p, hp, e1⟩ := hmem e he
    refine ⟨p.1, e1, ?_⟩
    rw [e1]
    exact Maps.keyOf_int_mk und3 (wf_i64' (h.key p.1 (by rw [k4 p hp]; simp)))
  have hrg : es.toList.map (WideElems.rg Try.prog 3 anyR) = D.map fun p => ((.int .i64 p.1, .nil) : Lit × DataW Unit) := by
    have e1 : es.toList.map (·.key) = D.map fun p => I p.1 := by
      have := congrArg (List.map Prod.fst) k1
      simpa [List.map_map, Function.comp_def] using this
    have e2 : es.toList.map (WideElems.rg Try.prog 3 anyR) = (es.toList.map (·.key)).map fun k => (((keyOf Try.prog 3 k).getD (.bool false), .nil) : Lit × DataW Unit) := by
      rw [List.map_map]
      refine List.map_congr_left fun e he => ?_
      obtain ⟨x, _, q2⟩ := hkey e he
      simp [WideElems.rg, WideElems.rd, q2, anyR]
    rw [e2, e1, List.map_map]
    refine List.map_congr_left fun p hp => ?_
    have := Maps.keyOf_int_mk und3 (wf_i64' (h.key p.1 (by rw [k4 p hp]; simp)))
    simp only [Function.comp_def]
    show ((keyOf Try.prog 3 (I p.1)).getD (.bool false), DataW.nil) = _
    rw [this]; rfl
  refine ⟨.map ((es.toList.map (WideElems.rg Try.prog 3 anyR)).foldr DataW.insert []), ⟨es, clock, hw, ⟨by unfold maxLen; omega, h.st, fun e he => ?_⟩, Nat.le_refl _, rfl⟩, ?_, fun ss hss => ?_⟩
  · obtain ⟨x, _, q2⟩ := hkey e he
    exact ⟨_, by simp only [WideElems.rd, q2, anyR, Option.bind_some, Option.map_some]; rfl⟩
  · have := (WideShapes.sorted_perm (es.toList.map (WideElems.rg Try.prog 3 anyR))).length_eq
    show List.length _ = _
    rw [this]; simp
  · have hp : (intKeys (.map ((es.toList.map (WideElems.rg Try.prog 3 anyR)).foldr DataW.insert []))).Perm (D.map (·.1)) := by
      have := (WideShapes.sorted_perm (es.toList.map (WideElems.rg Try.prog 3 anyR))).map (fun p : Lit × DataW Unit => _root_.Go.intOf p.1)
      rw [hrg, List.map_map] at this
      rw [hrg]
      exact this
    have hp2 := hss.trans hp
    refine ⟨hp2.symm.nodup k3, fun x => ?_⟩
    rw [hp2.mem_iff]
    constructor
    · intro hx
      obtain ⟨p, hp, rfl⟩ := List.mem_map.1 hx
      rw [k4 p hp]; simp
    · intro hx
      refine Classical.byContradiction fun hn => hx (k5 x fun p hp e => hn (List.mem_map.2 ⟨p, hp, e⟩))

/-! ### maps.Keys, slices.Sorted -/
theorem keys48 (b : Nat) : Sound Try.prog 48 id (.rel (fun args _ => args = [.map (some b)]) (fun _ v G => ∃ cb, v = .func (.func 74) #[] #[.pointer (some ⟨cb, 0, none⟩)] ∧ G cb = some (.cells #[.map (some b)] 100 (0, 0)))) := by
  refine ⟨fun args v G G' hg ⟨cb, h1, h2⟩ => ⟨cb, h1, hg _ _ h2⟩, fun args G W hs hp => ?_⟩
  subst hp
  have h := callsIn_wide.1 (AnyZI.keys_in keysA Fence.wide 0 trivial rfl (some b) W)
  refine Calls.mono h ?_
  rintro e W' ⟨rfl, rfl⟩
  have hB : Below W.heap.size W (W.alloc (.cells #[.map (some b)] 100)) := (Below.refl _ _).alloc (Nat.le_refl _) _
  have hnone : G W.heap.size = none := by
    cases hG : G W.heap.size with
    | none => rfl
    | some o => exact absurd (Array.getElem?_eq_some_iff.1 (hs _ o hG)).1 (Nat.lt_irrefl _)
  refine ⟨_, upd G W.heap.size (some (.cells #[.map (some b)] 100 (0, 0))), rfl, ⟨W.heap.size, rfl, by rw [upd_same]⟩, fun k o e => ?_, fun k o e => ?_, fun k o e => ?_, hB⟩
  · by_cases hk : k = W.heap.size
    · subst hk; rw [hnone] at e; cases e
    · rw [upd_other _ _ hk]; exact e
  · by_cases hk : k = W.heap.size
    · subst hk; rw [upd_same] at e; cases e; exact heap_alloc_new W _
    · rw [upd_other _ _ hk] at e
      have := hs _ _ e
      exact (hB.block k (Array.getElem?_eq_some_iff.1 this).1).trans this
  · by_cases hk : k = W.heap.size
    · subst hk; exact .inr (Nat.le_refl _)
    · rw [upd_other _ _ hk] at e; exact .inl e
theorem sorts73 (m : Nat) : AnyZI.SortsIn Try.prog sortedA_ren Fence.wide m :=
  ⟨fun blk off cap ss W hH hblk hsz => callsIn_wide.2 (AnyM.slices_Sort_int sortA blk off cap ss W hH hblk hsz),
   fun p cap W => callsIn_wide.2 (AnyM.slices_Sort_int_none sortA p cap W)⟩
theorem asc_of {ss : List Int} {m : Int → Option Value} (hnd : ss.Nodup) (hm : ∀ x, x ∈ ss ↔ m x ≠ none) : Asc (ss.mergeSort fun x y => decide (x ≤ y)) m := by
  have hp := List.mergeSort_perm ss (fun x y => decide (x ≤ y))
  have hs := List.pairwise_mergeSort (le := fun x y : Int => decide (x ≤ y)) (fun a b c h1 h2 => by simp only [decide_eq_true_eq] at *; omega) (fun a b => by simp only [Bool.or_eq_true, decide_eq_true_eq]; omega) ss
  have hn := hp.symm.nodup hnd
  refine ⟨?_, fun x => by rw [hp.mem_iff]; exact hm x⟩
  refine (hs.and hn).imp ?_
  rintro a b ⟨h1, h2⟩
  simp only [decide_eq_true_eq] at h1
  omega
theorem sorted47 (cb b : Nat) {es : Array MapEntry} {clock : Nat} {m : Int → Option Value} (h : SMap es clock m) (hsz : es.size ≤ 100000) : Sound Try.prog 47 id (.st (fun args ls G => args = [.func (.func 74) #[] #[.pointer (some ⟨cb, 0, none⟩)]] ∧ G cb = some (.cells #[.map (some b)] 100 (0, 0)) ∧ ls = [⟨b, false, .map es clock⟩])
    (fun _ _ v ns G => ns = [] ∧ ∃ a n c ss, v = .slice a n c ∧ PubRow G a n c (ss.map I) ∧ ss.length = n ∧ Asc ss m)) := by
  refine ⟨fun args ls v ns G G' hg ⟨h0, a, n, c, ss, h1, h2, h3, h4⟩ => ⟨h0, a, n, c, ss, h1, h2.grow hg, h3, h4⟩, fun args ls G W hs hls hnd hp => ?_⟩
  obtain ⟨rfl, hcb, rfl⟩ := hp
  obtain ⟨hw, hGb, _⟩ := hls ⟨b, false, .map es clock⟩ (by simp)
  have hw : W.heap[b]? = some (.map es clock) := hw
  obtain ⟨D0, hown, hD, hkeys⟩ := h.owns hw hsz
  have hcw := hs cb _ hcb
  have hseq : SeqGives Fence.wide 1 Try.prog 74 #[.pointer (some ⟨cb, 0, none⟩)] encZ (fun ss => ss.Perm (intKeys D0)) (Maps.size D0) W :=
    AnyZI.keys_gives (ρ := keysA_ren) { keysA with } Fence.wide _ trivial rfl (by omega) cb b es.size D0 _ (Array.getElem?_eq_some_iff.1 hcw).1 (by
      unfold World.cell?
      rw [show W.heap[(⟨cb, 0, none⟩ : Addr).block]? = _ from hcw]; rfl) hown
  have cS := AnyZI.sorted_in sortedA Fence.wide 4 trivial trivial trivial trivial rfl (by omega) (sorts73 _) (enters_of Try.func73 (by kernel_rfl) rfl) 74 #[.pointer (some ⟨cb, 0, none⟩)] trivial (enters_of Try.func74 (by kernel_rfl) rfl) _ (Maps.size D0) (by rw [hD]; unfold maxLen; omega) (by rw [hD]; omega) W hseq
  change CallsIn _ _ Try.prog 47 _ _ _ at cS
  refine Calls.mono (callsIn_wide.1 cS) ?_
  rintro e W' ⟨v, ss, rfl, hS, hrow, hnil, hB⟩
  obtain ⟨hn1, hm1⟩ := hkeys ss hS
  have hasc := asc_of hn1 hm1
  have hlen : (ss.mergeSort fun x y => decide (x ≤ y)).length = ss.length := List.length_mergeSort _
  have enc : (ss.mergeSort fun x y => decide (x ≤ y)).map encZ = (ss.mergeSort fun x y => decide (x ≤ y)).map I := rfl
  have hGw : Sub G W' := fun k o e => by
    have := hs k o e
    rw [hB.block k (Array.getElem?_eq_some_iff.1 this).1]; exact this
  rcases hrow.2 with ⟨rfl, hz⟩ | ⟨g, cap, cur, rfl, hbase, hg, r1, r2, r3, r4⟩
  · have : ss = [] := List.eq_nil_of_length_eq_zero hz
    subst this
    exact ⟨_, [], G, rfl, ⟨rfl, none, 0, 0, _, rfl, ⟨Nat.le_refl _, fun h => absurd rfl h, fun j v hj => by simp at hj⟩, by simp, hasc⟩, rfl, Grow.refl _, hGw, fun k o e => .inl e, ⟨hB.os, hB.tape, hB.output, hB.size, fun k hk _ => hB.block k hk⟩⟩
  · have hnone : G g = none := by
      cases hG : G g with
      | none => rfl
      | some o => exact absurd (Array.getElem?_eq_some_iff.1 (hs _ o hG)).1 (by omega)
    refine ⟨_, [], upd G g (some (.cells cur 3 (0, 0))), rfl, ⟨rfl, some ⟨g, 0, none⟩, ss.length, cap, _, rfl, ⟨r1, fun _ => rfl, fun j v hj => ?_⟩, hlen, hasc⟩, rfl, fun k o e => ?_, fun k o e => ?_, fun k o e => ?_, ⟨hB.os, hB.tape, hB.output, hB.size, fun k hk _ => hB.block k hk⟩⟩
    · simp only [rd1, ab_some, ao_some, upd_same, Nat.zero_add]
      rw [← enc, ← r4, List.getElem?_take] at hj
      split at hj
      · simpa using hj
      · cases hj
    · by_cases hk : k = g
      · subst hk; rw [hnone] at e; cases e
      · rw [upd_other _ _ hk]; exact e
    · by_cases hk : k = g
      · subst hk; rw [upd_same] at e; cases e; exact hg
      · rw [upd_other _ _ hk] at e; exact hGw k o e
    · by_cases hk : k = g
      · subst hk; exact .inr hbase
      · rw [upd_other _ _ hk] at e; exact .inl e
end Go.Proofs.Ytpcpjmplgladmaa

namespace Go.Proofs.Ytpcpjmplgladmaa
open Go.Pal
set_option maxRecDepth 100000
abbrev bptr (b : Nat) : Value := .pointer (some ⟨b, 0, none⟩)
/-- A test of one element: a function value to which blocks are lent, read-only. -/
def TestS {α : Type} (val : α → Value) (p : α → Bool) (q : α → Prop) (J : Hp → Prop) (ls : List LE) : PSpec :=
  .st (fun args l G => l = ls ∧ J G ∧ ∃ x, args = [val x] ∧ q x) (fun args l v ns _ => ns = [] ∧ ∃ x, args = [val x] ∧ v = .bool (p x))
/-- What is told of a list and a test. -/
def AllS {α : Type} (e : El α) (right : Value) (r : List α → Value) (q : α → Prop) (J : Hp → Prop) (ls : List LE) : PSpec :=
  .st (fun args l G => l = ls ∧ J G ∧ ∃ w xs, args = [w, right] ∧ SlV e G w xs ∧ ∀ x ∈ xs, q x) (fun args l v ns G => ns = [] ∧ ∃ w xs, args = [w, right] ∧ SlV e G w xs ∧ v = r xs)
def idxP {α : Type} (p : α → Bool) (l : List α) (k : Nat) : Int := match l with
  | [] => -1
  | r :: t => if p r then idxP p t (k + 1) else (k : Int)
theorem idxP_all {α : Type} (p : α → Bool) : ∀ (l : List α) (k : Nat), decide (0 ≤ idxP p l k) = !(l.all p)
  | [], k => rfl
  | r :: t, k => by
    unfold idxP
    cases hf : p r with
    | true => simp only [if_true, List.all_cons, hf, Bool.true_and]; exact idxP_all p t _
    | false => simp [hf]
abbrev U (n : Int) : Value := .int .u8 n
def u8E : El Int := ⟨1, fun p => [U p], fun {x y} h => by simp at h; exact h, fun _ => rfl, fun _ v hv => by simp at hv; rw [hv]; rfl⟩
/-- A word as its cells show it. -/
def wdhE : El (ByteArray × Option Addr × Nat × Nat) := ⟨2, fun p => [.string p.1, .slice p.2.1 p.2.2.1 p.2.2.2], fun {x y} h => by obtain ⟨_, _, _, _⟩ := x; obtain ⟨_, _, _, _⟩ := y; simp at h; simp [h], fun _ => rfl, fun _ v hv => by simp at hv; rcases hv with rfl | rfl <;> rfl⟩
theorem at0 {P : Program} {f : FuncId} {ic : IC} {rs : List IRes} {nt : Nat} (h : Comp P f ic rs nt) : CompAt P f 0 ic rs nt := ⟨h.ex⟩

/-! ### 56 -/
theorem inj56 : ∀ x y : (ByteArray × Option Addr × Nat × Nat), ((fun x : ByteArray × Option Addr × Nat × Nat => Value.agg #[.string x.1, .slice x.2.1 x.2.2.1 x.2.2.2])) x = ((fun x : ByteArray × Option Addr × Nat × Nat => Value.agg #[.string x.1, .slice x.2.1 x.2.2.1 x.2.2.2])) y → x = y := fun x y h => by obtain ⟨_, _, _, _⟩ := x; obtain ⟨_, _, _, _⟩ := y; simp at h; simp [h]
theorem not77 (g : FuncId) (fi ca : Array Value) (p : (ByteArray × Option Addr × Nat × Nat) → Bool) (q : (ByteArray × Option Addr × Nat × Nat) → Prop) (J : Hp → Prop) (b : Nat) (hr : SoundFn Try.prog (.func (.func g) fi ca) (TestS (fun x : ByteArray × Option Addr × Nat × Nat => Value.agg #[.string x.1, .slice x.2.1 x.2.2.1 x.2.2.2]) p q J [])) : Sound Try.prog 77 (fun a => (#[] : Array Value).toList ++ a ++ (#[bptr b] : Array Value).toList) (TestS (fun x : ByteArray × Option Addr × Nat × Nat => Value.agg #[.string x.1, .slice x.2.1 x.2.2.1 x.2.2.2]) (fun x => !p x) q J [⟨b, false, .cells [.func (.func g) fi ca] 116⟩]) := by
  refine ⟨fun args ls v ns G G' hg h => h, fun args ls G Wd hsub hls hnd hpre => ?_⟩
  obtain ⟨rfl, hj, x, rfl, hx⟩ := hpre
  refine st_sound (Tab.nil _) comp77 (svs := [.agg [.val (.string x.1), .val (.slice x.2.1 x.2.2.1 x.2.2.2)], .c (.ptr 0 0)]) (obs := [.cells (.named b) [.val (.func (.func g) fi ca)] 116]) (by simp) hsub hls hnd (Nat.le_of_ble_eq_true rfl) ?_ ?_ ?_
  · exact ⟨⟨[.string x.1, .slice x.2.1 x.2.2.1 x.2.2.2], rfl, relL_vals _ [.string x.1, .slice x.2.1 x.2.2.1 x.2.2.2]⟩, (by intro c hc; simp at hc; rcases hc with rfl | rfl <;> trivial), ⟨_, rfl, rfl⟩, (Nat.le_of_ble_eq_true rfl : 0 < 1), trivial⟩
  · exact ⟨⟨_, rfl, relL_vals _ [.func (.func g) fi ca], (by intro c hc; simp at hc; subst hc; trivial)⟩, trivial⟩
  · (conv => whnf)
    refine CallvP.fn _ hr (W.mk ?_)
    (conv => whnf)
    refine StP.mk ⟨[], trivial, (by show ([] : List Nat).Nodup; decide), ⟨rfl, hj, x, rfl, hx⟩, fun v ns G3 hg3 hpost => W.mk ?_⟩
    obtain ⟨rfl, y, q1, rfl⟩ := hpost
    have hxy := inj56 x y (List.cons.inj q1).1
    subst hxy
    (conv => whnf)
    refine ForkP.mk (fun hm => W.mk ?_) (fun hm => W.mk ?_) <;> (conv => whnf) <;> refine FinS.mk ⟨[], ⟨.cells [.func (.func g) fi ca] 116, ⟨_, rfl, rfl⟩, trivial, rfl, rfl⟩, rfl, x, rfl, ?_⟩ <;> (show Value.bool _ = Value.bool (!p x); rw [hm]; rfl)
theorem idx85 (g : FuncId) (fi ca : Array Value) (p : (ByteArray × Option Addr × Nat × Nat) → Bool) (q : (ByteArray × Option Addr × Nat × Nat) → Prop) (J : Hp → Prop) (b : Nat) (hJ : ∀ G G', Grow G G' → J G → J G') (hr : SoundFn Try.prog (.func (.func g) fi ca) (TestS (fun x : ByteArray × Option Addr × Nat × Nat => Value.agg #[.string x.1, .slice x.2.1 x.2.2.1 x.2.2.2]) p q J [])) : Sound Try.prog 85 id (AllS wdhE (.func (.func 77) #[] #[bptr b]) (fun xs => I (idxP p xs 0)) q J [⟨b, false, .cells [.func (.func g) fi ca] 116⟩]) := by
  refine ⟨fun args ls v ns G G' hg h => ?_, fun args ls G Wd hsub hls hnd hpre => ?_⟩
  · obtain ⟨h0, w, xs, h1, h2, h3⟩ := h; exact ⟨h0, w, xs, h1, h2.grow hg, h3⟩
  obtain ⟨rfl, hj, w, l, rfl, ⟨a, n, c, rfl, hl, hn⟩, hq⟩ := hpre
  refine st_sound (Tab.nil _) comp85 (svs := [.v (.slice a n c), .v (.func (.func 77) #[] #[bptr b])]) (obs := [.cells (.named b) [.val (.func (.func g) fi ca)] 116]) (by simp) hsub hls hnd (Nat.le_of_ble_eq_true rfl) ?_ ?_ ?_
  · exact ⟨rfl, trivial, rfl, trivial, trivial⟩
  · exact ⟨⟨_, rfl, relL_vals _ [.func (.func g) fi ca], (by intro c hc; simp at hc; subst hc; trivial)⟩, trivial⟩
  · have hlen := hl.len
    (conv => whnf)
    refine LoopP.of { α := Nat, fr := fun x => [(0, .v (.slice a n c)), (1, .v (.func (.func 77) #[] #[bptr b])), (7, .v (I n)), (8, .v (I x))], H := fun _ => [(0, .cells (.named b) [.val (.func (.func g) fi ca)] 116)], ok := fun i _ => i ≤ l.length ∧ idxP p (l.drop i) i = idxP p l 0, m := fun x => l.length - x }
      0 (HeadP.of [] ⟨rfl, rfl, rfl, rfl, trivial⟩ ⟨rfl, trivial⟩) ⟨Nat.zero_le _, rfl⟩ (fun _ => ⟨rfl, rfl⟩) (fun (i : Nat) G' hG hx => W.mk ?_)
    obtain ⟨hi, hx⟩ := hx
    replace hl := SlR.grow (G := G) (G' := G') (fun _ _ h => h) hl hG
    replace hj := hJ _ _ hG hj
    (conv => whnf)
    refine IteP.mk (fun hlt => W.mk ?_) (fun hge => W.mk ?_) <;> (conv => whnf)
    · have hlt : i < l.length := by omega
      have hc := hl.el hlt
      have hqi := hq _ (List.getElem_mem hlt)
      rw [List.drop_eq_getElem_cons hlt, idxP] at hx
      repeat' (first | (refine OblP.mk ?_ (W.mk ?_); (first | trivial | omega | (simp only [inR]; omega) | exact Nat.le_of_ble_eq_true (by rfl) | exact SlR.some (by assumption) (by omega)); (conv => whnf)) | (first | (refine RdP.at (by assumption) (by rfl) (W.mk ?_); (conv => whnf)) | (refine RdP.sub (by assumption) (by rfl) (W.mk ?_); (conv => whnf)) | (refine RdP.sub2 (by assumption) (by rfl) (W.mk ?_); (conv => whnf)) | (refine RdP.sub3 (by assumption) (by rfl) (W.mk ?_); (conv => whnf))))
      refine CallvP.fn _ (SoundFn.of body77 (not77 g fi ca p q J b hr)) (W.mk ?_)
      (conv => whnf)
      refine StP.mk ⟨[(0, ⟨b, false, .cells [.func (.func g) fi ca] 116⟩)], ⟨⟨_, rfl, rfl⟩, trivial⟩, (by show ([0] : List Nat).Nodup; decide), ⟨rfl, hj, l[i], rfl, hqi⟩, fun v ns G3 hg3 hpost => W.mk ?_⟩
      obtain ⟨rfl, y, q1, rfl⟩ := hpost
      have hxy := inj56 _ y (List.cons.inj q1).1
      subst hxy
      (conv => whnf)
      refine ForkP.mk (fun hm => W.mk ?_) (fun hm => W.mk ?_) <;> (conv => whnf)
      · refine FinS.mk ⟨[], ⟨.cells [.func (.func g) fi ca] 116, ⟨_, rfl, rfl⟩, trivial, rfl, rfl⟩, rfl, _, l, rfl, ⟨a, n, c, rfl, SlR.grow (G := G') (G' := G3) (fun _ _ h => h) hl hg3, hn⟩, ?_⟩
        rw [if_neg (by simpa using hm)] at hx
        show I (i : Int) = I (idxP p l 0); rw [← hx]
      · (refine OblP.mk ?_ (W.mk ?_); (first | trivial | omega | (simp only [inR]; omega) | exact Nat.le_of_ble_eq_true (by rfl) | exact SlR.some (by assumption) (by omega)); (conv => whnf))
        rw [if_pos (by simpa using hm)] at hx
        exact RoundP.of (i + 1) (HeadP.of [] ⟨rfl, rfl, rfl, rfl, trivial⟩ ⟨rfl, trivial⟩) ⟨hlt, hx⟩ (by simp only; omega)
    · have : i = l.length := by omega
      subst this
      rw [List.drop_length] at hx
      refine FinS.mk ⟨[], ⟨.cells [.func (.func g) fi ca] 116, ⟨_, rfl, rfl⟩, trivial, rfl, rfl⟩, rfl, _, l, rfl, ⟨a, n, c, rfl, hl, hn⟩, ?_⟩
      show I (-1) = I (idxP p l 0); rw [← hx]; rfl
theorem con76 (g : FuncId) (fi ca : Array Value) (p : (ByteArray × Option Addr × Nat × Nat) → Bool) (q : (ByteArray × Option Addr × Nat × Nat) → Prop) (J : Hp → Prop) (b : Nat) (hJ : ∀ G G', Grow G G' → J G → J G') (hr : SoundFn Try.prog (.func (.func g) fi ca) (TestS (fun x : ByteArray × Option Addr × Nat × Nat => Value.agg #[.string x.1, .slice x.2.1 x.2.2.1 x.2.2.2]) p q J [])) : Sound Try.prog 76 id (AllS wdhE (.func (.func 77) #[] #[bptr b]) (fun xs => .bool (!(xs.all p))) q J [⟨b, false, .cells [.func (.func g) fi ca] 116⟩]) := by
  refine ⟨fun args ls v ns G G' hg h => ?_, fun args ls G Wd hsub hls hnd hpre => ?_⟩
  · obtain ⟨h0, w, xs, h1, h2, h3⟩ := h; exact ⟨h0, w, xs, h1, h2.grow hg, h3⟩
  obtain ⟨rfl, hj, w, l, rfl, ⟨a, n, c, rfl, hl, hn⟩, hq⟩ := hpre
  refine st_sound (Tab.cons 85 _ (idx85 g fi ca p q J b hJ hr) body85 (Tab.nil _)) comp76 (svs := [.v (.slice a n c), .v (.func (.func 77) #[] #[bptr b])]) (obs := [.cells (.named b) [.val (.func (.func g) fi ca)] 116]) (by simp) hsub hls hnd (Nat.le_of_ble_eq_true rfl) ?_ ?_ ?_
  · exact ⟨rfl, trivial, rfl, trivial, trivial⟩
  · exact ⟨⟨_, rfl, relL_vals _ [.func (.func g) fi ca], (by intro c hc; simp at hc; subst hc; trivial)⟩, trivial⟩
  · (conv => whnf)
    refine StP.mk ⟨[(0, ⟨b, false, .cells [.func (.func g) fi ca] 116⟩)], ⟨⟨_, rfl, rfl⟩, trivial⟩, (by show ([0] : List Nat).Nodup; decide), ⟨rfl, hj, _, l, rfl, ⟨a, n, c, rfl, hl, hn⟩, hq⟩, fun v ns G3 hg3 hpost => W.mk ?_⟩
    obtain ⟨rfl, w', l', q1, q2, rfl⟩ := hpost
    simp only [List.cons.injEq, and_true] at q1
    subst q1
    have : l' = l := q2.uniq (SlV.grow hg3 ⟨a, n, c, rfl, hl, hn⟩)
    subst this
    have hall := idxP_all p l' 0
    (conv => whnf)
    refine IteP.mk (fun hq => W.mk ?_) (fun hq => W.mk ?_) <;> (conv => whnf) <;> refine FinS.mk ⟨[], ⟨.cells [.func (.func g) fi ca] 116, ⟨_, rfl, rfl⟩, trivial, rfl, rfl⟩, rfl, _, l', rfl, q2, ?_⟩ <;> show Value.bool _ = Value.bool (!(l'.all p)) <;> rw [← hall] <;> simp [*]
theorem all56 (g : FuncId) (fi ca : Array Value) (p : (ByteArray × Option Addr × Nat × Nat) → Bool) (q : (ByteArray × Option Addr × Nat × Nat) → Prop) (J : Hp → Prop) (hJ : ∀ G G', Grow G G' → J G → J G') (hr : SoundFn Try.prog (.func (.func g) fi ca) (TestS (fun x : ByteArray × Option Addr × Nat × Nat => Value.agg #[.string x.1, .slice x.2.1 x.2.2.1 x.2.2.2]) p q J [])) : Sound Try.prog 56 id (AllS wdhE (.func (.func g) fi ca) (fun xs => .bool (xs.all p)) q J []) := by
  refine ⟨fun args ls v ns G G' hg h => ?_, fun args ls G Wd hsub hls hnd hpre => ?_⟩
  · obtain ⟨h0, w, xs, h1, h2, h3⟩ := h; exact ⟨h0, w, xs, h1, h2.grow hg, h3⟩
  obtain ⟨rfl, hj, w, l, rfl, ⟨a, n, c, rfl, hl, hn⟩, hq⟩ := hpre
  refine st_sound (Tab.nil _) (at0 comp56) (svs := [.v (.slice a n c), .v (.func (.func g) fi ca)]) (obs := []) (by simp) hsub hls hnd (Nat.le_of_ble_eq_true rfl) ?_ ?_ ?_
  · exact ⟨rfl, trivial, rfl, trivial, trivial⟩
  · exact trivial
  · (conv => whnf)
    refine NameP.mk (fun b => W.mk ?_)
    (conv => whnf)
    refine CallN.mk ⟨_, con76 g fi ca p q J b hJ hr, body76, W.mk ?_⟩
    (conv => whnf)
    refine StP.mk ⟨[(0, ⟨b, false, .cells [.func (.func g) fi ca] 116⟩)], ⟨⟨_, rfl, rfl⟩, trivial⟩, (by show ([0] : List Nat).Nodup; decide), ⟨rfl, hj, _, l, rfl, ⟨a, n, c, rfl, hl, hn⟩, hq⟩, fun v ns G3 hg3 hpost => W.mk ?_⟩
    obtain ⟨rfl, w', l', q1, q2, rfl⟩ := hpost
    simp only [List.cons.injEq, and_true] at q1
    subst q1
    have : l' = l := q2.uniq (SlV.grow hg3 ⟨a, n, c, rfl, hl, hn⟩)
    subst this
    (conv => whnf)
    refine ForkP.mk (fun hm => W.mk ?_) (fun hm => W.mk ?_) <;> (conv => whnf) <;> refine FinS.mk ⟨[], rfl, rfl, _, l', rfl, q2, ?_⟩ <;> (refine congrArg Value.bool ?_; simpa using hm)

/-! ### 59 -/
theorem inj59 : ∀ x y : Od, (odV) x = (odV) y → x = y := fun x y h => by cases x; cases y; simp at h; simp [h]
theorem not81 (g : FuncId) (fi ca : Array Value) (p : Od → Bool) (q : Od → Prop) (J : Hp → Prop) (b0 : Nat) (w0 : Value) (w1 : Value) (w2 : Value) (b : Nat) (hr : SoundFn Try.prog (.func (.func g) fi ca) (TestS odV p q J [⟨b0, false, .cells [w0, w1, w2] 38⟩])) : Sound Try.prog 81 (fun a => (#[] : Array Value).toList ++ a ++ (#[bptr b] : Array Value).toList) (TestS odV (fun x => !p x) q J [⟨b0, false, .cells [w0, w1, w2] 38⟩, ⟨b, false, .cells [.func (.func g) fi ca] 111⟩]) := by
  refine ⟨fun args ls v ns G G' hg h => h, fun args ls G Wd hsub hls hnd hpre => ?_⟩
  obtain ⟨rfl, hj, x, rfl, hx⟩ := hpre
  refine st_sound (Tab.nil _) comp81 (svs := [.v (odV x), .c (.ptr 1 0)]) (obs := [.cells (.named b0) [.val w0, .val w1, .val w2] 38, .cells (.named b) [.val (.func (.func g) fi ca)] 111]) (by simp) hsub hls hnd (Nat.le_of_ble_eq_true rfl) ?_ ?_ ?_
  · exact ⟨rfl, trivial, ⟨_, rfl, rfl⟩, (Nat.le_of_ble_eq_true rfl : 1 < 2), trivial⟩
  · exact ⟨⟨_, rfl, relL_vals _ [w0, w1, w2], (by intro c hc; simp at hc; rcases hc with rfl | rfl | rfl <;> trivial)⟩, ⟨_, rfl, relL_vals _ [.func (.func g) fi ca], (by intro c hc; simp at hc; subst hc; trivial)⟩, trivial⟩
  · (conv => whnf)
    refine CallvP.fn _ hr (W.mk ?_)
    (conv => whnf)
    refine StP.mk ⟨[(0, ⟨b0, false, .cells [w0, w1, w2] 38⟩)], ⟨⟨_, rfl, rfl⟩, trivial⟩, (by show ([0] : List Nat).Nodup; decide), ⟨rfl, hj, x, rfl, hx⟩, fun v ns G3 hg3 hpost => W.mk ?_⟩
    obtain ⟨rfl, y, q1, rfl⟩ := hpost
    have hxy := inj59 x y (List.cons.inj q1).1
    subst hxy
    (conv => whnf)
    refine ForkP.mk (fun hm => W.mk ?_) (fun hm => W.mk ?_) <;> (conv => whnf) <;> refine FinS.mk ⟨[], ⟨.cells [w0, w1, w2] 38, ⟨_, rfl, rfl⟩, trivial, rfl, .cells [.func (.func g) fi ca] 111, ⟨_, rfl, rfl⟩, trivial, rfl, rfl⟩, rfl, x, rfl, ?_⟩ <;> (show Value.bool _ = Value.bool (!p x); rw [hm]; rfl)
theorem idx88 (g : FuncId) (fi ca : Array Value) (p : Od → Bool) (q : Od → Prop) (J : Hp → Prop) (b0 : Nat) (w0 : Value) (w1 : Value) (w2 : Value) (b : Nat) (hJ : ∀ G G', Grow G G' → J G → J G') (hr : SoundFn Try.prog (.func (.func g) fi ca) (TestS odV p q J [⟨b0, false, .cells [w0, w1, w2] 38⟩])) : Sound Try.prog 88 id (AllS odE (.func (.func 81) #[] #[bptr b]) (fun xs => I (idxP p xs 0)) q J [⟨b0, false, .cells [w0, w1, w2] 38⟩, ⟨b, false, .cells [.func (.func g) fi ca] 111⟩]) := by
  refine ⟨fun args ls v ns G G' hg h => ?_, fun args ls G Wd hsub hls hnd hpre => ?_⟩
  · obtain ⟨h0, w, xs, h1, h2, h3⟩ := h; exact ⟨h0, w, xs, h1, h2.grow hg, h3⟩
  obtain ⟨rfl, hj, w, l, rfl, ⟨a, n, c, rfl, hl, hn⟩, hq⟩ := hpre
  refine st_sound (Tab.nil _) comp88 (svs := [.v (.slice a n c), .v (.func (.func 81) #[] #[bptr b])]) (obs := [.cells (.named b0) [.val w0, .val w1, .val w2] 38, .cells (.named b) [.val (.func (.func g) fi ca)] 111]) (by simp) hsub hls hnd (Nat.le_of_ble_eq_true rfl) ?_ ?_ ?_
  · exact ⟨rfl, trivial, rfl, trivial, trivial⟩
  · exact ⟨⟨_, rfl, relL_vals _ [w0, w1, w2], (by intro c hc; simp at hc; rcases hc with rfl | rfl | rfl <;> trivial)⟩, ⟨_, rfl, relL_vals _ [.func (.func g) fi ca], (by intro c hc; simp at hc; subst hc; trivial)⟩, trivial⟩
  · have hlen := hl.len
    (conv => whnf)
    refine LoopP.of { α := Nat, fr := fun x => [(0, .v (.slice a n c)), (1, .v (.func (.func 81) #[] #[bptr b])), (7, .v (I n)), (8, .v (I x))], H := fun _ => [(0, .cells (.named b0) [.val w0, .val w1, .val w2] 38), (1, .cells (.named b) [.val (.func (.func g) fi ca)] 111)], ok := fun i _ => i ≤ l.length ∧ idxP p (l.drop i) i = idxP p l 0, m := fun x => l.length - x }
      0 (HeadP.of [] ⟨rfl, rfl, rfl, rfl, trivial⟩ ⟨rfl, rfl, trivial⟩) ⟨Nat.zero_le _, rfl⟩ (fun _ => ⟨rfl, rfl⟩) (fun (i : Nat) G' hG hx => W.mk ?_)
    obtain ⟨hi, hx⟩ := hx
    replace hl := SlR.grow (G := G) (G' := G') (fun _ _ h => h) hl hG
    replace hj := hJ _ _ hG hj
    (conv => whnf)
    refine IteP.mk (fun hlt => W.mk ?_) (fun hge => W.mk ?_) <;> (conv => whnf)
    · have hlt : i < l.length := by omega
      have hc := hl.el hlt
      have hqi := hq _ (List.getElem_mem hlt)
      rw [List.drop_eq_getElem_cons hlt, idxP] at hx
      repeat' (first | (refine OblP.mk ?_ (W.mk ?_); (first | trivial | omega | (simp only [inR]; omega) | exact Nat.le_of_ble_eq_true (by rfl) | exact SlR.some (by assumption) (by omega)); (conv => whnf)) | (first | (refine RdP.at (by assumption) (by rfl) (W.mk ?_); (conv => whnf)) | (refine RdP.sub (by assumption) (by rfl) (W.mk ?_); (conv => whnf)) | (refine RdP.sub2 (by assumption) (by rfl) (W.mk ?_); (conv => whnf)) | (refine RdP.sub3 (by assumption) (by rfl) (W.mk ?_); (conv => whnf))))
      refine CallvP.fn _ (SoundFn.of body81 (not81 g fi ca p q J b0 w0 w1 w2 b hr)) (W.mk ?_)
      (conv => whnf)
      refine StP.mk ⟨[(0, ⟨b0, false, .cells [w0, w1, w2] 38⟩), (1, ⟨b, false, .cells [.func (.func g) fi ca] 111⟩)], ⟨⟨_, rfl, rfl⟩, ⟨_, rfl, rfl⟩, trivial⟩, (by show ([0, 1] : List Nat).Nodup; decide), ⟨rfl, hj, l[i], rfl, hqi⟩, fun v ns G3 hg3 hpost => W.mk ?_⟩
      obtain ⟨rfl, y, q1, rfl⟩ := hpost
      have hxy := inj59 _ y (List.cons.inj q1).1
      subst hxy
      (conv => whnf)
      refine ForkP.mk (fun hm => W.mk ?_) (fun hm => W.mk ?_) <;> (conv => whnf)
      · refine FinS.mk ⟨[], ⟨.cells [w0, w1, w2] 38, ⟨_, rfl, rfl⟩, trivial, rfl, .cells [.func (.func g) fi ca] 111, ⟨_, rfl, rfl⟩, trivial, rfl, rfl⟩, rfl, _, l, rfl, ⟨a, n, c, rfl, SlR.grow (G := G') (G' := G3) (fun _ _ h => h) hl hg3, hn⟩, ?_⟩
        rw [if_neg (by simpa using hm)] at hx
        show I (i : Int) = I (idxP p l 0); rw [← hx]
      · (refine OblP.mk ?_ (W.mk ?_); (first | trivial | omega | (simp only [inR]; omega) | exact Nat.le_of_ble_eq_true (by rfl) | exact SlR.some (by assumption) (by omega)); (conv => whnf))
        rw [if_pos (by simpa using hm)] at hx
        exact RoundP.of (i + 1) (HeadP.of [] ⟨rfl, rfl, rfl, rfl, trivial⟩ ⟨rfl, rfl, trivial⟩) ⟨hlt, hx⟩ (by simp only; omega)
    · have : i = l.length := by omega
      subst this
      rw [List.drop_length] at hx
      refine FinS.mk ⟨[], ⟨.cells [w0, w1, w2] 38, ⟨_, rfl, rfl⟩, trivial, rfl, .cells [.func (.func g) fi ca] 111, ⟨_, rfl, rfl⟩, trivial, rfl, rfl⟩, rfl, _, l, rfl, ⟨a, n, c, rfl, hl, hn⟩, ?_⟩
      show I (-1) = I (idxP p l 0); rw [← hx]; rfl
theorem con80 (g : FuncId) (fi ca : Array Value) (p : Od → Bool) (q : Od → Prop) (J : Hp → Prop) (b0 : Nat) (w0 : Value) (w1 : Value) (w2 : Value) (b : Nat) (hJ : ∀ G G', Grow G G' → J G → J G') (hr : SoundFn Try.prog (.func (.func g) fi ca) (TestS odV p q J [⟨b0, false, .cells [w0, w1, w2] 38⟩])) : Sound Try.prog 80 id (AllS odE (.func (.func 81) #[] #[bptr b]) (fun xs => .bool (!(xs.all p))) q J [⟨b0, false, .cells [w0, w1, w2] 38⟩, ⟨b, false, .cells [.func (.func g) fi ca] 111⟩]) := by
  refine ⟨fun args ls v ns G G' hg h => ?_, fun args ls G Wd hsub hls hnd hpre => ?_⟩
  · obtain ⟨h0, w, xs, h1, h2, h3⟩ := h; exact ⟨h0, w, xs, h1, h2.grow hg, h3⟩
  obtain ⟨rfl, hj, w, l, rfl, ⟨a, n, c, rfl, hl, hn⟩, hq⟩ := hpre
  refine st_sound (Tab.cons 88 _ (idx88 g fi ca p q J b0 w0 w1 w2 b hJ hr) body88 (Tab.nil _)) comp80 (svs := [.v (.slice a n c), .v (.func (.func 81) #[] #[bptr b])]) (obs := [.cells (.named b0) [.val w0, .val w1, .val w2] 38, .cells (.named b) [.val (.func (.func g) fi ca)] 111]) (by simp) hsub hls hnd (Nat.le_of_ble_eq_true rfl) ?_ ?_ ?_
  · exact ⟨rfl, trivial, rfl, trivial, trivial⟩
  · exact ⟨⟨_, rfl, relL_vals _ [w0, w1, w2], (by intro c hc; simp at hc; rcases hc with rfl | rfl | rfl <;> trivial)⟩, ⟨_, rfl, relL_vals _ [.func (.func g) fi ca], (by intro c hc; simp at hc; subst hc; trivial)⟩, trivial⟩
  · (conv => whnf)
    refine StP.mk ⟨[(0, ⟨b0, false, .cells [w0, w1, w2] 38⟩), (1, ⟨b, false, .cells [.func (.func g) fi ca] 111⟩)], ⟨⟨_, rfl, rfl⟩, ⟨_, rfl, rfl⟩, trivial⟩, (by show ([0, 1] : List Nat).Nodup; decide), ⟨rfl, hj, _, l, rfl, ⟨a, n, c, rfl, hl, hn⟩, hq⟩, fun v ns G3 hg3 hpost => W.mk ?_⟩
    obtain ⟨rfl, w', l', q1, q2, rfl⟩ := hpost
    simp only [List.cons.injEq, and_true] at q1
    subst q1
    have : l' = l := q2.uniq (SlV.grow hg3 ⟨a, n, c, rfl, hl, hn⟩)
    subst this
    have hall := idxP_all p l' 0
    (conv => whnf)
    refine IteP.mk (fun hq => W.mk ?_) (fun hq => W.mk ?_) <;> (conv => whnf) <;> refine FinS.mk ⟨[], ⟨.cells [w0, w1, w2] 38, ⟨_, rfl, rfl⟩, trivial, rfl, .cells [.func (.func g) fi ca] 111, ⟨_, rfl, rfl⟩, trivial, rfl, rfl⟩, rfl, _, l', rfl, q2, ?_⟩ <;> show Value.bool _ = Value.bool (!(l'.all p)) <;> rw [← hall] <;> simp [*]
theorem all59 (g : FuncId) (fi ca : Array Value) (p : Od → Bool) (q : Od → Prop) (J : Hp → Prop) (b0 : Nat) (w0 : Value) (w1 : Value) (w2 : Value) (hJ : ∀ G G', Grow G G' → J G → J G') (hr : SoundFn Try.prog (.func (.func g) fi ca) (TestS odV p q J [⟨b0, false, .cells [w0, w1, w2] 38⟩])) : Sound Try.prog 59 id (AllS odE (.func (.func g) fi ca) (fun xs => .bool (xs.all p)) q J [⟨b0, false, .cells [w0, w1, w2] 38⟩]) := by
  refine ⟨fun args ls v ns G G' hg h => ?_, fun args ls G Wd hsub hls hnd hpre => ?_⟩
  · obtain ⟨h0, w, xs, h1, h2, h3⟩ := h; exact ⟨h0, w, xs, h1, h2.grow hg, h3⟩
  obtain ⟨rfl, hj, w, l, rfl, ⟨a, n, c, rfl, hl, hn⟩, hq⟩ := hpre
  refine st_sound (Tab.nil _) comp59 (svs := [.v (.slice a n c), .v (.func (.func g) fi ca)]) (obs := [.cells (.named b0) [.val w0, .val w1, .val w2] 38]) (by simp) hsub hls hnd (Nat.le_of_ble_eq_true rfl) ?_ ?_ ?_
  · exact ⟨rfl, trivial, rfl, trivial, trivial⟩
  · exact ⟨⟨_, rfl, relL_vals _ [w0, w1, w2], (by intro c hc; simp at hc; rcases hc with rfl | rfl | rfl <;> trivial)⟩, trivial⟩
  · (conv => whnf)
    refine NameP.mk (fun b => W.mk ?_)
    (conv => whnf)
    refine CallN.mk ⟨_, con80 g fi ca p q J b0 w0 w1 w2 b hJ hr, body80, W.mk ?_⟩
    (conv => whnf)
    refine StP.mk ⟨[(0, ⟨b0, false, .cells [w0, w1, w2] 38⟩), (1, ⟨b, false, .cells [.func (.func g) fi ca] 111⟩)], ⟨⟨_, rfl, rfl⟩, ⟨_, rfl, rfl⟩, trivial⟩, (by show ([0, 1] : List Nat).Nodup; decide), ⟨rfl, hj, _, l, rfl, ⟨a, n, c, rfl, hl, hn⟩, hq⟩, fun v ns G3 hg3 hpost => W.mk ?_⟩
    obtain ⟨rfl, w', l', q1, q2, rfl⟩ := hpost
    simp only [List.cons.injEq, and_true] at q1
    subst q1
    have : l' = l := q2.uniq (SlV.grow hg3 ⟨a, n, c, rfl, hl, hn⟩)
    subst this
    (conv => whnf)
    refine ForkP.mk (fun hm => W.mk ?_) (fun hm => W.mk ?_) <;> (conv => whnf) <;> refine FinS.mk ⟨[], ⟨.cells [w0, w1, w2] 38, ⟨_, rfl, rfl⟩, trivial, rfl, rfl⟩, rfl, _, l', rfl, q2, ?_⟩ <;> (refine congrArg Value.bool ?_; simpa using hm)

/-! ### 78 -/
theorem inj78 : ∀ x y : Int, (U) x = (U) y → x = y := fun x y h => by cases h; rfl
theorem not87 (g : FuncId) (fi ca : Array Value) (p : Int → Bool) (q : Int → Prop) (J : Hp → Prop) (b : Nat) (hr : SoundFn Try.prog (.func (.func g) fi ca) (TestS U p q J [])) : Sound Try.prog 87 (fun a => (#[] : Array Value).toList ++ a ++ (#[bptr b] : Array Value).toList) (TestS U (fun x => !p x) q J [⟨b, false, .cells [.func (.func g) fi ca] 130⟩]) := by
  refine ⟨fun args ls v ns G G' hg h => h, fun args ls G Wd hsub hls hnd hpre => ?_⟩
  obtain ⟨rfl, hj, x, rfl, hx⟩ := hpre
  refine st_sound (Tab.nil _) comp87 (svs := [.v (U x), .c (.ptr 0 0)]) (obs := [.cells (.named b) [.val (.func (.func g) fi ca)] 130]) (by simp) hsub hls hnd (Nat.le_of_ble_eq_true rfl) ?_ ?_ ?_
  · exact ⟨rfl, trivial, ⟨_, rfl, rfl⟩, (Nat.le_of_ble_eq_true rfl : 0 < 1), trivial⟩
  · exact ⟨⟨_, rfl, relL_vals _ [.func (.func g) fi ca], (by intro c hc; simp at hc; subst hc; trivial)⟩, trivial⟩
  · (conv => whnf)
    refine CallvP.fn _ hr (W.mk ?_)
    (conv => whnf)
    refine StP.mk ⟨[], trivial, (by show ([] : List Nat).Nodup; decide), ⟨rfl, hj, x, rfl, hx⟩, fun v ns G3 hg3 hpost => W.mk ?_⟩
    obtain ⟨rfl, y, q1, rfl⟩ := hpost
    have hxy := inj78 x y (List.cons.inj q1).1
    subst hxy
    (conv => whnf)
    refine ForkP.mk (fun hm => W.mk ?_) (fun hm => W.mk ?_) <;> (conv => whnf) <;> refine FinS.mk ⟨[], ⟨.cells [.func (.func g) fi ca] 130, ⟨_, rfl, rfl⟩, trivial, rfl, rfl⟩, rfl, x, rfl, ?_⟩ <;> (show Value.bool _ = Value.bool (!p x); rw [hm]; rfl)
theorem idx100 (g : FuncId) (fi ca : Array Value) (p : Int → Bool) (q : Int → Prop) (J : Hp → Prop) (b : Nat) (hJ : ∀ G G', Grow G G' → J G → J G') (hr : SoundFn Try.prog (.func (.func g) fi ca) (TestS U p q J [])) : Sound Try.prog 100 id (AllS u8E (.func (.func 87) #[] #[bptr b]) (fun xs => I (idxP p xs 0)) q J [⟨b, false, .cells [.func (.func g) fi ca] 130⟩]) := by
  refine ⟨fun args ls v ns G G' hg h => ?_, fun args ls G Wd hsub hls hnd hpre => ?_⟩
  · obtain ⟨h0, w, xs, h1, h2, h3⟩ := h; exact ⟨h0, w, xs, h1, h2.grow hg, h3⟩
  obtain ⟨rfl, hj, w, l, rfl, ⟨a, n, c, rfl, hl, hn⟩, hq⟩ := hpre
  refine st_sound (Tab.nil _) comp100 (svs := [.v (.slice a n c), .v (.func (.func 87) #[] #[bptr b])]) (obs := [.cells (.named b) [.val (.func (.func g) fi ca)] 130]) (by simp) hsub hls hnd (Nat.le_of_ble_eq_true rfl) ?_ ?_ ?_
  · exact ⟨rfl, trivial, rfl, trivial, trivial⟩
  · exact ⟨⟨_, rfl, relL_vals _ [.func (.func g) fi ca], (by intro c hc; simp at hc; subst hc; trivial)⟩, trivial⟩
  · have hlen := hl.len
    (conv => whnf)
    refine LoopP.of { α := Nat, fr := fun x => [(0, .v (.slice a n c)), (1, .v (.func (.func 87) #[] #[bptr b])), (7, .v (I n)), (8, .v (I x))], H := fun _ => [(0, .cells (.named b) [.val (.func (.func g) fi ca)] 130)], ok := fun i _ => i ≤ l.length ∧ idxP p (l.drop i) i = idxP p l 0, m := fun x => l.length - x }
      0 (HeadP.of [] ⟨rfl, rfl, rfl, rfl, trivial⟩ ⟨rfl, trivial⟩) ⟨Nat.zero_le _, rfl⟩ (fun _ => ⟨rfl, rfl⟩) (fun (i : Nat) G' hG hx => W.mk ?_)
    obtain ⟨hi, hx⟩ := hx
    replace hl := SlR.grow (G := G) (G' := G') (fun _ _ h => h) hl hG
    replace hj := hJ _ _ hG hj
    (conv => whnf)
    refine IteP.mk (fun hlt => W.mk ?_) (fun hge => W.mk ?_) <;> (conv => whnf)
    · have hlt : i < l.length := by omega
      have hc := hl.el hlt
      have hqi := hq _ (List.getElem_mem hlt)
      rw [List.drop_eq_getElem_cons hlt, idxP] at hx
      repeat' (first | (refine OblP.mk ?_ (W.mk ?_); (first | trivial | omega | (simp only [inR]; omega) | exact Nat.le_of_ble_eq_true (by rfl) | exact SlR.some (by assumption) (by omega)); (conv => whnf)) | (first | (refine RdP.at (by assumption) (by rfl) (W.mk ?_); (conv => whnf)) | (refine RdP.sub (by assumption) (by rfl) (W.mk ?_); (conv => whnf)) | (refine RdP.sub2 (by assumption) (by rfl) (W.mk ?_); (conv => whnf)) | (refine RdP.sub3 (by assumption) (by rfl) (W.mk ?_); (conv => whnf))))
      refine CallvP.fn _ (SoundFn.of body87 (not87 g fi ca p q J b hr)) (W.mk ?_)
      (conv => whnf)
      refine StP.mk ⟨[(0, ⟨b, false, .cells [.func (.func g) fi ca] 130⟩)], ⟨⟨_, rfl, rfl⟩, trivial⟩, (by show ([0] : List Nat).Nodup; decide), ⟨rfl, hj, l[i], rfl, hqi⟩, fun v ns G3 hg3 hpost => W.mk ?_⟩
      obtain ⟨rfl, y, q1, rfl⟩ := hpost
      have hxy := inj78 _ y (List.cons.inj q1).1
      subst hxy
      (conv => whnf)
      refine ForkP.mk (fun hm => W.mk ?_) (fun hm => W.mk ?_) <;> (conv => whnf)
      · refine FinS.mk ⟨[], ⟨.cells [.func (.func g) fi ca] 130, ⟨_, rfl, rfl⟩, trivial, rfl, rfl⟩, rfl, _, l, rfl, ⟨a, n, c, rfl, SlR.grow (G := G') (G' := G3) (fun _ _ h => h) hl hg3, hn⟩, ?_⟩
        rw [if_neg (by simpa using hm)] at hx
        show I (i : Int) = I (idxP p l 0); rw [← hx]
      · (refine OblP.mk ?_ (W.mk ?_); (first | trivial | omega | (simp only [inR]; omega) | exact Nat.le_of_ble_eq_true (by rfl) | exact SlR.some (by assumption) (by omega)); (conv => whnf))
        rw [if_pos (by simpa using hm)] at hx
        exact RoundP.of (i + 1) (HeadP.of [] ⟨rfl, rfl, rfl, rfl, trivial⟩ ⟨rfl, trivial⟩) ⟨hlt, hx⟩ (by simp only; omega)
    · have : i = l.length := by omega
      subst this
      rw [List.drop_length] at hx
      refine FinS.mk ⟨[], ⟨.cells [.func (.func g) fi ca] 130, ⟨_, rfl, rfl⟩, trivial, rfl, rfl⟩, rfl, _, l, rfl, ⟨a, n, c, rfl, hl, hn⟩, ?_⟩
      show I (-1) = I (idxP p l 0); rw [← hx]; rfl
theorem con86 (g : FuncId) (fi ca : Array Value) (p : Int → Bool) (q : Int → Prop) (J : Hp → Prop) (b : Nat) (hJ : ∀ G G', Grow G G' → J G → J G') (hr : SoundFn Try.prog (.func (.func g) fi ca) (TestS U p q J [])) : Sound Try.prog 86 id (AllS u8E (.func (.func 87) #[] #[bptr b]) (fun xs => .bool (!(xs.all p))) q J [⟨b, false, .cells [.func (.func g) fi ca] 130⟩]) := by
  refine ⟨fun args ls v ns G G' hg h => ?_, fun args ls G Wd hsub hls hnd hpre => ?_⟩
  · obtain ⟨h0, w, xs, h1, h2, h3⟩ := h; exact ⟨h0, w, xs, h1, h2.grow hg, h3⟩
  obtain ⟨rfl, hj, w, l, rfl, ⟨a, n, c, rfl, hl, hn⟩, hq⟩ := hpre
  refine st_sound (Tab.cons 100 _ (idx100 g fi ca p q J b hJ hr) body100 (Tab.nil _)) comp86 (svs := [.v (.slice a n c), .v (.func (.func 87) #[] #[bptr b])]) (obs := [.cells (.named b) [.val (.func (.func g) fi ca)] 130]) (by simp) hsub hls hnd (Nat.le_of_ble_eq_true rfl) ?_ ?_ ?_
  · exact ⟨rfl, trivial, rfl, trivial, trivial⟩
  · exact ⟨⟨_, rfl, relL_vals _ [.func (.func g) fi ca], (by intro c hc; simp at hc; subst hc; trivial)⟩, trivial⟩
  · (conv => whnf)
    refine StP.mk ⟨[(0, ⟨b, false, .cells [.func (.func g) fi ca] 130⟩)], ⟨⟨_, rfl, rfl⟩, trivial⟩, (by show ([0] : List Nat).Nodup; decide), ⟨rfl, hj, _, l, rfl, ⟨a, n, c, rfl, hl, hn⟩, hq⟩, fun v ns G3 hg3 hpost => W.mk ?_⟩
    obtain ⟨rfl, w', l', q1, q2, rfl⟩ := hpost
    simp only [List.cons.injEq, and_true] at q1
    subst q1
    have : l' = l := q2.uniq (SlV.grow hg3 ⟨a, n, c, rfl, hl, hn⟩)
    subst this
    have hall := idxP_all p l' 0
    (conv => whnf)
    refine IteP.mk (fun hq => W.mk ?_) (fun hq => W.mk ?_) <;> (conv => whnf) <;> refine FinS.mk ⟨[], ⟨.cells [.func (.func g) fi ca] 130, ⟨_, rfl, rfl⟩, trivial, rfl, rfl⟩, rfl, _, l', rfl, q2, ?_⟩ <;> show Value.bool _ = Value.bool (!(l'.all p)) <;> rw [← hall] <;> simp [*]
theorem all78 (g : FuncId) (fi ca : Array Value) (p : Int → Bool) (q : Int → Prop) (J : Hp → Prop) (hJ : ∀ G G', Grow G G' → J G → J G') (hr : SoundFn Try.prog (.func (.func g) fi ca) (TestS U p q J [])) : Sound Try.prog 78 id (AllS u8E (.func (.func g) fi ca) (fun xs => .bool (xs.all p)) q J []) := by
  refine ⟨fun args ls v ns G G' hg h => ?_, fun args ls G Wd hsub hls hnd hpre => ?_⟩
  · obtain ⟨h0, w, xs, h1, h2, h3⟩ := h; exact ⟨h0, w, xs, h1, h2.grow hg, h3⟩
  obtain ⟨rfl, hj, w, l, rfl, ⟨a, n, c, rfl, hl, hn⟩, hq⟩ := hpre
  refine st_sound (Tab.nil _) (at0 comp78) (svs := [.v (.slice a n c), .v (.func (.func g) fi ca)]) (obs := []) (by simp) hsub hls hnd (Nat.le_of_ble_eq_true rfl) ?_ ?_ ?_
  · exact ⟨rfl, trivial, rfl, trivial, trivial⟩
  · exact trivial
  · (conv => whnf)
    refine NameP.mk (fun b => W.mk ?_)
    (conv => whnf)
    refine CallN.mk ⟨_, con86 g fi ca p q J b hJ hr, body86, W.mk ?_⟩
    (conv => whnf)
    refine StP.mk ⟨[(0, ⟨b, false, .cells [.func (.func g) fi ca] 130⟩)], ⟨⟨_, rfl, rfl⟩, trivial⟩, (by show ([0] : List Nat).Nodup; decide), ⟨rfl, hj, _, l, rfl, ⟨a, n, c, rfl, hl, hn⟩, hq⟩, fun v ns G3 hg3 hpost => W.mk ?_⟩
    obtain ⟨rfl, w', l', q1, q2, rfl⟩ := hpost
    simp only [List.cons.injEq, and_true] at q1
    subst q1
    have : l' = l := q2.uniq (SlV.grow hg3 ⟨a, n, c, rfl, hl, hn⟩)
    subst this
    (conv => whnf)
    refine ForkP.mk (fun hm => W.mk ?_) (fun hm => W.mk ?_) <;> (conv => whnf) <;> refine FinS.mk ⟨[], rfl, rfl, _, l', rfl, q2, ?_⟩ <;> (refine congrArg Value.bool ?_; simpa using hm)
end Go.Proofs.Ytpcpjmplgladmaa

namespace Go.Proofs.Ytpcpjmplgladmaa
open Go.Pal
set_option maxRecDepth 100000
theorem TestS.of {α : Type} {val : α → Value} {p : α → Bool} {q : α → Prop} {J : Hp → Prop} {f : FuncId} {sh : List Value → List Value} {pre : List Value → Hp → Prop} {post : List Value → Hp → Value → Prop} (h : Sound Try.prog f sh (.sca pre post)) (h1 : ∀ x G, q x → J G → pre [val x] G) (h2 : ∀ x G v, q x → J G → post [val x] G v → v = .bool (p x)) : Sound Try.prog f sh (TestS val p q J []) := by
  refine ⟨fun _ _ _ _ _ _ _ h => h, fun args ls G W hs _ _ hp => ?_⟩
  obtain ⟨rfl, hj, x, rfl, hx⟩ := hp
  refine (h [val x] G W hs (h1 x G hx hj)).mono ?_
  rintro e W' ⟨v, rfl, hv, hB⟩
  exact ⟨v, [], G, rfl, ⟨rfl, x, rfl, h2 x G v hx hj hv⟩, rfl, Grow.refl _, fun b o e => by
    have h1 := hs b o e
    rw [hB.block b (Array.getElem?_eq_some_iff.1 h1).1]; exact h1, fun b o e => .inl e, below_beneath hB⟩
abbrev Raw := ByteArray × Option Addr × Nat × Nat
abbrev rawV (x : Raw) : Value := .agg #[.string x.1, .slice x.2.1 x.2.2.1 x.2.2.2]
theorem heads57 : Sound Try.prog 57 id (gsca (fun args _ (x : Raw) => args = [rawV x]) fun x v => v = .bool (decide (x.2.2.1 ≤ 5))) := by
  refine comp57.gsca (Tab.nil _) (fun args G s h => ?_) (fun args G x h => ?_)
  · subst h; simp
  · subst h
    obtain ⟨s, a, n, c⟩ := x
    (conv => whnf)
    refine IteP.mk (fun h1 => W.mk ?_) (fun h1 => W.mk ?_) <;> (conv => whnf) <;> refine FinP.mk ?_ <;> refine congrArg Value.bool ?_ <;> symm
    · dsimp only at h1 ⊢; exact decide_eq_true (by omega)
    · dsimp only at h1 ⊢; exact decide_eq_false (by omega)
def okC (c : Int) : Bool := decide (33 ≤ c) && decide (c ≤ 126)
theorem char79 : Sound Try.prog 79 id (gsca (fun args _ (c : Int) => args = [U c]) fun c v => v = .bool (okC c)) := by
  refine comp79.gsca (Tab.nil _) (fun args G s h => ?_) (fun args G c h => ?_)
  · subst h; simp
  · subst h
    (conv => whnf)
    refine IteP.mk (fun h1 => W.mk ?_) (fun h1 => W.mk ?_) <;> (conv => whnf)
    · have h1 : 33 ≤ c := h1
      refine IteP.mk (fun h2 => W.mk ?_) (fun h2 => W.mk ?_) <;> (conv => whnf) <;> refine FinP.mk ?_ <;> refine congrArg Value.bool ?_ <;> rw [okC, decide_eq_true h1, Bool.true_and] <;> symm
      · exact decide_eq_true h2
      · exact decide_eq_false h2
    · have h1 : ¬ 33 ≤ c := h1
      refine FinP.mk ?_
      refine congrArg Value.bool ?_
      rw [okC, decide_eq_false h1]; rfl
def bytesL (s : ByteArray) : List Int := s.data.toList.map fun b => (b.toNat : Int)
theorem bytesL_eq (s : ByteArray) : bytesL s = (List.range s.size).map (byteAt s) := by
  apply List.ext_getElem?
  intro i
  simp only [bytesL, List.getElem?_map]
  by_cases h : i < s.size
  · have h' : i < s.data.size := h
    rw [List.getElem?_range h, Array.getElem?_toList, Array.getElem?_eq_getElem h']
    simp only [Option.map_some, byteAt, h, dif_pos]
    rfl
  · have h' : ¬ i < s.data.size := h
    rw [Array.getElem?_toList, Array.getElem?_eq_none (by omega), List.getElem?_eq_none (by simp; omega)]
    rfl
theorem okC_all (s : ByteArray) : (bytesL s).all okC = !badT s := by
  rw [bytesL_eq, badT, List.all_map, List.not_any_eq_all_not]
  congr 1
  funext k
  simp only [Function.comp_apply, okC, badC, Bool.not_or]
  rw [Bool.eq_iff_iff]
  simp
theorem flat1 {α β : Type} (g : α → β) (l : List α) : (l.map fun x => [g x]).flatten = l.map g := by
  induction l with
  | nil => rfl
  | cons x r ih => simp [ih]
def WdV (G : Hp) (v : Value) (w : Wd) : Prop := ∃ h, v = .agg #[.string w.text, h] ∧ SlV intE G h w.heads
def wdRd : Rd Wd := ⟨WdV, fun {_ _ x y} ⟨a, e, h1⟩ ⟨b, e', h2⟩ => by
    rw [e] at e'
    simp only [Value.agg.injEq, Array.mk.injEq, List.cons.injEq, Value.string.injEq, and_true] at e'
    obtain ⟨e1, e2⟩ := e'
    subst e2
    have := h1.uniq h2
    cases x; cases y; simp_all, fun hg ⟨a, e, h1⟩ => ⟨a, e, h1.grow hg⟩⟩
theorem valid58 : Sound Try.prog 58 id (gsca (args1 wdRd fun _ => True) fun w v => v = .bool (!badW w)) := by
  refine comp58.gsca (Tab.cons 51 _ within51 body51 (Tab.cons 67 _ rising67 body67 (Tab.nil _))) (fun args G s h => ?_) (fun args G w h => ?_)
  · obtain ⟨v, rfl, _⟩ := h; simp
  · obtain ⟨u, rfl, ⟨hv, rfl, hh⟩, _⟩ := h
    obtain ⟨a, n, c, rfl, hl, hn⟩ := id hh
    have hbw : badW w = (!inF w.text.size 1 20 || !risM 99 w.heads || badT w.text) := rfl
    (conv => whnf)
    refine OblP.mk ⟨_, _, _, rfl⟩ (W.mk ?_)
    (conv => whnf)
    refine ForkP.mk (fun hq => W.mk ?_) (fun hq => W.mk ?_) <;> (conv => whnf)
    rotate_left
    · have hq : inF w.text.size 1 20 = false := hq
      refine FinP.mk ?_
      refine congrArg Value.bool ?_
      rw [hbw, hq]; rfl
    have hq : inF w.text.size 1 20 = true := hq
    have hsz : w.text.size ≤ 20 := by simp [inF] at hq; omega
    refine RelP.mk trivial (fun v G1 hg hq1 => W.mk ?_)
    obtain ⟨ba, bc, rfl, hpr⟩ := hq1
    (conv => whnf)
    refine CallN.mk ⟨_, all78 79 #[] #[] okC (fun _ => True) (fun _ => True) (fun _ _ _ h => h) (SoundFn.of body79 (Sound.bare (TestS.of char79 (fun x G _ _ => ⟨x, rfl⟩) (fun x G v _ _ ⟨y, h1, h2⟩ => by cases h1; exact h2)))), body78, W.mk ?_⟩
    (conv => whnf)
    refine StP.mk ⟨[], trivial, (by show ([] : List Nat).Nodup; decide), ⟨rfl, trivial, _, bytesL w.text, rfl, hpr.slV (by
      show _ = ((bytesL w.text).map fun x => [U x]).flatten
      rw [flat1, bytesL, List.map_map]; rfl) (by simp [bytesL]) (by omega), fun _ _ => trivial⟩, fun v ns G3 hg3 hpost => W.mk ?_⟩
    obtain ⟨rfl, w', l', q1, q2, rfl⟩ := hpost
    simp only [List.cons.injEq, and_true] at q1
    subst q1
    have : l' = bytesL w.text := q2.uniq (SlV.grow hg3 (hpr.slV (by
      show _ = ((bytesL w.text).map fun x => [U x]).flatten
      rw [flat1, bytesL, List.map_map]; rfl) (by simp [bytesL]) (by omega)))
    subst this
    have hok := okC_all w.text
    (conv => whnf)
    refine ForkP.mk (fun hm => W.mk ?_) (fun hm => W.mk ?_) <;> (conv => whnf)
    rotate_left
    · have hm : (bytesL w.text).all okC = false := hm
      refine FinP.mk ?_
      refine congrArg Value.bool ?_
      rw [hok] at hm
      rw [hbw, show badT w.text = true by simpa using hm, Bool.or_true]; rfl
    have hm : (bytesL w.text).all okC = true := hm
    rw [hok] at hm
    have hbt : badT w.text = false := by simpa using hm
    refine ScaP.g (ok2 (slRd intE) intRd fun _ _ => True) (x := (w.heads, 99)) ⟨_, _, rfl, (hh.grow hg).grow hg3, rfl, trivial⟩ (fun v hv => W.mk ?_)
    subst hv
    dsimp only
    (conv => whnf)
    refine ForkP.mk (fun hr => W.mk ?_) (fun hr => W.mk ?_) <;> (conv => whnf) <;> refine FinP.mk ?_ <;> refine congrArg Value.bool ?_ <;> rw [hbw, hq, hbt, show risM 99 w.heads = _ from hr] <;> rfl
/-- The words as their cells show them. -/
theorem wds_raw {G : Hp} {a : Option Addr} {n c : Nat} {ws : List Wd} (h : SlR 2 WdR G a n c ws) : ∃ F : Nat → Raw, SlR 2 wdhE.R G a n c ((List.range n).map F) ∧ ∀ i (hi : i < ws.length), WdR G (wdhE.f (F i)) ws[i] := by
  have ex : ∀ i, ∃ x : Raw, ∀ hi : i < ws.length, CellsAt G (ab a) (ao a + i * 2) (wdhE.f x) ∧ WdR G (wdhE.f x) ws[i] := fun i => by
    by_cases hi : i < ws.length
    · obtain ⟨cs, _, h1, hd, rfl, a', n', c', rfl, h3, h4⟩ := h.at_ i hi
      exact ⟨(ws[i].text, a', n', c'), fun _ => ⟨h1, _, rfl, a', n', c', rfl, h3, h4⟩⟩
    · exact ⟨(ByteArray.empty, none, 0, 0), fun h => absurd h hi⟩
  refine ⟨fun i => Classical.choose (ex i), ⟨by simp, h.cap, h.some, fun i hi => ?_⟩, fun i hi => (Classical.choose_spec (ex i) hi).2⟩
  have hn : i < ws.length := by rw [h.len]; simpa using hi
  refine ⟨_, rfl, (Classical.choose_spec (ex i) hn).1, ?_⟩
  simp only [List.getElem_map, List.getElem_range]
  rfl
theorem all_raw {ws : List Wd} {n : Nat} {F : Nat → Raw} {p : Raw → Bool} {p' : Wd → Bool} (hn : ws.length = n) (h : ∀ i (hi : i < ws.length), p (F i) = p' ws[i]) : ((List.range n).map F).all p = ws.all p' := by
  have e : ((List.range n).map F).map p = ws.map p' := by
    apply List.ext_getElem (by simp [hn])
    intro i h1 h2
    simp only [List.getElem_map, List.getElem_range]
    exact h i (by simpa using h2)
  have e2 : ∀ {α : Type} (l : List α) (f : α → Bool), l.all f = (l.map f).all id := fun l f => by simp [List.all_map, Function.comp_def]
  rw [e2, e, ← e2]
open Classical in
/-- Whether a word is valid, by its cells. -/
noncomputable def rawOk (G : Hp) (x : Raw) : Bool := if h : ∃ w, WdR G (wdhE.f x) w then !badW h.choose else false
theorem rawOk_eq {G : Hp} {x : Raw} {w : Wd} (h : WdR G (wdhE.f x) w) : rawOk G x = !badW w := by
  have hex : ∃ w, WdR G (wdhE.f x) w := ⟨w, h⟩
  rw [rawOk, dif_pos hex, WdR.uniq hex.choose_spec h]
theorem ord54 (b : Nat) (a : Option Addr) (n c : Nat) (ov : Value) (cols : Int) : Sound Try.prog 54 (fun a => (#[] : Array Value).toList ++ a ++ (#[bptr b] : Array Value).toList) (TestS odV (fun o => !badO n o) (fun _ => True) (fun _ => True) [⟨b, false, .cells [.slice a n c, ov, I cols] 38⟩]) := by
  refine ⟨fun args ls v ns G G' hg h => h, fun args ls G Wd hsub hls hnd hpre => ?_⟩
  obtain ⟨rfl, hj, ⟨f, t, k, y⟩, rfl, hx⟩ := hpre
  refine st_sound (Tab.cons 51 _ within51 body51 (Tab.cons 55 _ year55 body55 (Tab.nil _))) comp54 (svs := [.v (odV ⟨f, t, k, y⟩), .c (.ptr 0 0)]) (obs := [.cells (.named b) [.val (.slice a n c), .val ov, .val (I cols)] 38]) (by simp) hsub hls hnd (Nat.le_of_ble_eq_true rfl) ?_ ?_ ?_
  · exact ⟨rfl, trivial, ⟨_, rfl, rfl⟩, (Nat.le_of_ble_eq_true rfl : 0 < 1), trivial⟩
  · exact ⟨⟨_, rfl, relL_vals _ [.slice a n c, ov, I cols], (by intro c hc; simp at hc; rcases hc with rfl | rfl | rfl <;> trivial)⟩, trivial⟩
  · have hbo : badO n ⟨f, t, k, y⟩ = (!inF t 1 n || !inF f 0 (t - 1) || !inF k 0 7 || !inF y 0 9999) := rfl
    have e1 : (!inF t 1 n || !inF f 0 (t - 1)) = !(decide (0 ≤ f) && decide (f < t) && decide (t ≤ n)) := by
      rw [Bool.eq_iff_iff]; simp [inF]; omega
    rw [e1] at hbo
    have fin : ∀ x : Bool, badO n ⟨f, t, k, y⟩ = !x → ∃ z, [odV ⟨f, t, k, y⟩] = [odV z] ∧ Value.bool x = .bool (!badO n z) := fun x h => ⟨_, rfl, by rw [h, Bool.not_not]⟩
    (conv => whnf)
    refine IteP.mk (fun h1 => W.mk ?_) (fun h1 => W.mk ?_) <;> (conv => whnf)
    rotate_left
    · have h1 : ¬ 0 ≤ f := h1
      refine FinS.mk ⟨[], ⟨.cells [.slice a n c, ov, I cols] 38, ⟨_, rfl, rfl⟩, trivial, rfl, rfl⟩, rfl, fin false ?_⟩
      rw [hbo, decide_eq_false h1]; rfl
    have h1 : 0 ≤ f := h1
    refine IteP.mk (fun h2 => W.mk ?_) (fun h2 => W.mk ?_) <;> (conv => whnf)
    rotate_left
    · have h2 : ¬ f < t := h2
      refine FinS.mk ⟨[], ⟨.cells [.slice a n c, ov, I cols] 38, ⟨_, rfl, rfl⟩, trivial, rfl, rfl⟩, rfl, fin false ?_⟩
      rw [hbo, decide_eq_false h2, Bool.and_false]; rfl
    have h2 : f < t := h2
    refine IteP.mk (fun h3 => W.mk ?_) (fun h3 => W.mk ?_) <;> (conv => whnf)
    rotate_left
    · have h3 : ¬ t ≤ n := h3
      refine FinS.mk ⟨[], ⟨.cells [.slice a n c, ov, I cols] 38, ⟨_, rfl, rfl⟩, trivial, rfl, rfl⟩, rfl, fin false ?_⟩
      rw [hbo, decide_eq_false h3, Bool.and_false]; rfl
    have h3 : t ≤ n := h3
    rw [decide_eq_true h1, decide_eq_true h2, decide_eq_true h3] at hbo
    refine OblP.mk ⟨_, _, _, rfl⟩ (W.mk ?_)
    (conv => whnf)
    refine ForkP.mk (fun h4 => W.mk ?_) (fun h4 => W.mk ?_) <;> (conv => whnf)
    rotate_left
    · have h4 : inF k 0 7 = false := h4
      refine FinS.mk ⟨[], ⟨.cells [.slice a n c, ov, I cols] 38, ⟨_, rfl, rfl⟩, trivial, rfl, rfl⟩, rfl, fin false ?_⟩
      rw [hbo, h4]; rfl
    have h4 : inF k 0 7 = true := h4
    refine ScaP.g (ok1 intRd fun _ => True) (x := y) ⟨_, rfl, rfl, trivial⟩ (fun v hv => W.mk ?_)
    subst hv
    (conv => whnf)
    refine ForkP.mk (fun h5 => W.mk ?_) (fun h5 => W.mk ?_) <;> (conv => whnf)
    · have h5 : inF y 0 9999 = true := h5
      refine FinS.mk ⟨[], ⟨.cells [.slice a n c, ov, I cols] 38, ⟨_, rfl, rfl⟩, trivial, rfl, rfl⟩, rfl, fin true ?_⟩
      rw [hbo, h4, h5]; rfl
    · have h5 : inF y 0 9999 = false := h5
      refine FinS.mk ⟨[], ⟨.cells [.slice a n c, ov, I cols] 38, ⟨_, rfl, rfl⟩, trivial, rfl, rfl⟩, rfl, fin false ?_⟩
      rw [hbo, h4, h5]; rfl
theorem check30 : Sound Try.prog 30 id (gsca (args1 rpRd fun _ => True) fun r v => v = I (faultR r)) := by
  refine comp30.gsca (Tab.cons 51 _ within51 body51 (Tab.nil _)) (fun args G s h => ?_) (fun args G r h => ?_)
  · obtain ⟨v, rfl, _⟩ := h; simp
  · obtain ⟨u, rfl, ⟨rw_, ro, rfl, hrc⟩, _⟩ := h
    obtain ⟨oa, on, oc, rfl, ho1, ho2⟩ := id hrc.o
    obtain ⟨wa, wn, wc, rfl, hw1, hw2⟩ := id hrc.w
    have hwn := hw1.len
    have hon := ho1.len
    have h3 : 60 < r.words.length ∨ 12 < r.orders.length → faultR r = 3 := fun h => by rw [faultR, if_pos h]
    obtain ⟨F, hF, hFw⟩ := wds_raw hw1
    have hJ : ∀ G1 G2 : Hp, Grow G1 G2 → Grow G G1 → Grow G G2 := fun _ _ h h' => h'.trans h
    (conv => whnf)
    refine NameP.mk (fun b => W.mk ?_)
    (conv => whnf)
    refine IteP.mk (fun h1 => W.mk ?_) (fun h1 => W.mk ?_) <;> (conv => whnf)
    · refine FinP.mk ?_
      rw [h3 (.inl (by omega))]; rfl
    refine IteP.mk (fun h2 => W.mk ?_) (fun h2 => W.mk ?_) <;> (conv => whnf)
    · refine FinP.mk ?_
      rw [h3 (.inr (by omega))]; rfl
    have hfa : faultR r = if r.words.any longW then 3 else if r.words.any badW || r.orders.any (badO r.words.length) || !inF r.cols 1 20 then 1 else 0 := by rw [faultR, if_neg (by omega)]
    refine CallN.mk ⟨_, all56 57 #[] #[] (fun x => decide (x.2.2.1 ≤ 5)) (fun _ => True) (fun _ => True) (fun _ _ _ h => h) (SoundFn.of body57 (Sound.bare (TestS.of heads57 (fun x G _ _ => ⟨x, rfl⟩) (fun x G v _ _ ⟨y, h1, h2⟩ => by
      have := inj56 x y (List.cons.inj h1).1
      subst this; exact h2)))), body56, W.mk ?_⟩
    (conv => whnf)
    refine StP.mk ⟨[], trivial, (by show ([] : List Nat).Nodup; decide), ⟨rfl, trivial, _, _, rfl, ⟨_, _, _, rfl, hF, hw2⟩, fun _ _ => trivial⟩, fun v ns G3 hg3 hpost => W.mk ?_⟩
    obtain ⟨rfl, w', l', q1, q2, rfl⟩ := hpost
    simp only [List.cons.injEq, and_true] at q1
    subst q1
    have := q2.uniq (SlV.grow hg3 ⟨_, _, _, rfl, hF, hw2⟩)
    subst this
    have hlong : ((List.range wn).map F).all (fun x => decide (x.2.2.1 ≤ 5)) = !r.words.any longW := by
      rw [all_raw (p' := fun w => !longW w) hwn (fun i hi => ?_), List.not_any_eq_all_not]
      obtain ⟨hd, e, a1, n1, c1, e2, k1, _⟩ := hFw i hi
      simp only [wdhE, List.cons.injEq, Value.string.injEq, and_true] at e
      obtain ⟨_, e⟩ := e
      rw [← e] at e2
      cases e2
      have := k1.len
      simp only [longW]
      rw [this, Bool.eq_iff_iff]; simp
    (conv => whnf)
    refine ForkP.mk (fun hm => W.mk ?_) (fun hm => W.mk ?_) <;> (conv => whnf)
    rotate_left
    · have hm := hlong.symm.trans hm
      refine FinP.mk ?_
      rw [hfa, if_pos (by simpa using hm)]; rfl
    have hm := hlong.symm.trans hm
    rw [if_neg (by simpa using hm)] at hfa
    refine CallN.mk ⟨_, all56 58 #[] #[] (rawOk G) (fun x => ∃ w, WdR G (wdhE.f x) w) (Grow G) hJ (SoundFn.of body58 (Sound.bare (TestS.of valid58 (fun x G' ⟨w, hw⟩ hj => ⟨w, _, rfl, (by
        obtain ⟨hd, e, k1⟩ := hw.grow hj
        simp only [wdhE, List.cons.injEq, and_true] at e
        exact ⟨hd, by rw [e.1, e.2], k1⟩), trivial⟩) (fun x G' v ⟨w, hw⟩ hj ⟨y, ⟨u, h1, h2, _⟩, h3⟩ => by
      rw [rawOk_eq hw, h3]
      have hv := (List.cons.inj h1).1
      subst hv
      obtain ⟨hd, e, k1⟩ := hw.grow hj
      simp only [wdhE, List.cons.injEq, and_true] at e
      rw [wdRd.uniq h2 ⟨hd, by rw [e.1, e.2], k1⟩])))), body56, W.mk ?_⟩
    (conv => whnf)
    refine StP.mk ⟨[], trivial, (by show ([] : List Nat).Nodup; decide), ⟨rfl, hg3, _, _, rfl, SlV.grow hg3 ⟨_, _, _, rfl, hF, hw2⟩, fun x hx => ?_⟩, fun v ns G4 hg4 hpost => W.mk ?_⟩
    · obtain ⟨i, hi, rfl⟩ := List.mem_map.1 hx
      exact ⟨_, hFw i (by rw [hwn]; simpa using hi)⟩
    obtain ⟨rfl, w', l', q1, q3, rfl⟩ := hpost
    simp only [List.cons.injEq, and_true] at q1
    subst q1
    have := q3.uniq (SlV.grow (hg3.trans hg4) ⟨_, _, _, rfl, hF, hw2⟩)
    subst this
    have hbad : ((List.range wn).map F).all (rawOk G) = !r.words.any badW := by
      rw [all_raw (p' := fun w => !badW w) hwn (fun i hi => rawOk_eq (hFw i hi)), List.not_any_eq_all_not]
    (conv => whnf)
    refine ForkP.mk (fun hm2 => W.mk ?_) (fun hm2 => W.mk ?_) <;> (conv => whnf)
    rotate_left
    · have hm2 := hbad.symm.trans hm2
      refine FinP.mk ?_
      rw [hfa, if_pos (by rw [show r.words.any badW = true by simpa using hm2]; rfl)]; rfl
    have hm2 := hbad.symm.trans hm2
    rw [show r.words.any badW = false by simpa using hm2, Bool.false_or] at hfa
    refine CallN.mk ⟨_, all59 54 #[] #[bptr b] (fun o => !badO wn o) (fun _ => True) (fun _ => True) b (.slice wa wn wc) (.slice oa on oc) (I r.cols) (fun _ _ _ h => h) (SoundFn.of body54 (ord54 b wa wn wc (.slice oa on oc) r.cols)), body59, W.mk ?_⟩
    (conv => whnf)
    refine StP.mk ⟨[(0, ⟨b, false, .cells [.slice wa wn wc, .slice oa on oc, I r.cols] 38⟩)], ⟨⟨_, rfl, rfl⟩, trivial⟩, (by show ([0] : List Nat).Nodup; decide), ⟨rfl, trivial, _, r.orders, rfl, (hrc.o.grow hg3).grow hg4, fun _ _ => trivial⟩, fun v ns G5 hg5 hpost => W.mk ?_⟩
    obtain ⟨rfl, w', l', q1, q4, rfl⟩ := hpost
    simp only [List.cons.injEq, and_true] at q1
    subst q1
    have := q4.uniq (((hrc.o.grow hg3).grow hg4).grow hg5)
    subst this
    have hbo : (r.orders.all fun o => !badO wn o) = !r.orders.any (badO r.words.length) := by
      rw [hwn, List.not_any_eq_all_not]
    (conv => whnf)
    refine ForkP.mk (fun hm3 => W.mk ?_) (fun hm3 => W.mk ?_) <;> (conv => whnf)
    rotate_left
    · have hm3 := hbo.symm.trans hm3
      refine FinP.mk ?_
      rw [hfa, if_pos (by rw [show r.orders.any (badO r.words.length) = true by simpa using hm3]; rfl)]; rfl
    have hm3 := hbo.symm.trans hm3
    rw [show r.orders.any (badO r.words.length) = false by simpa using hm3, Bool.false_or] at hfa
    refine OblP.mk ⟨_, _, _, rfl⟩ (W.mk ?_)
    (conv => whnf)
    refine ForkP.mk (fun hq => W.mk ?_) (fun hq => W.mk ?_) <;> (conv => whnf)
    · have hq : inF r.cols 1 20 = true := hq
      refine FinP.mk ?_
      rw [hfa, hq]; rfl
    · have hq : inF r.cols 1 20 = false := hq
      refine FinP.mk ?_
      rw [hfa, hq]; rfl
end Go.Proofs.Ytpcpjmplgladmaa
