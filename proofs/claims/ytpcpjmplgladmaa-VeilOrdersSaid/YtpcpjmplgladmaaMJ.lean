/- Layer 9: whether so many more orders are enough. Layer 9: the fewest orders. Layer 9: the statements' own functions: lists, the same ones, the example's report. Layer 9: the examples that every statement asks. Layer 9: the examples that every statement asks: the walk. -/
import Derived.Test.YtpcpjmplgladmaaMI
import Derived.Test.YtpcpjmplgladmaaMH
import Derived.Test.YtpcpjmplgladmaaMC
set_option linter.unusedSimpArgs false
set_option linter.unusedVariables false
namespace Go.Proofs.Ytpcpjmplgladmaa
open Go.Pal
set_option maxRecDepth 100000
/-- So many more, from a place on, are enough. -/
def cnF (P : List Int → Bool) (l : List Int) : Nat → Nat → List Int → Bool
  | 0, _, now => P now
  | f + 1, fr, now => (List.range' fr (l.length - fr)).any fun j => cnF P l f (j + 1) (now ++ [l.getD j 0])
def goN (P : List Int → Bool) (l : List Int) (f : Nat) (now : List Int) (i : Nat) : Bool := (List.range' i (l.length - i)).any fun j => cnF P l f (j + 1) (now ++ [l.getD j 0])
theorem goN_end {P : List Int → Bool} {l : List Int} {f : Nat} {now : List Int} : goN P l f now l.length = false := by simp [goN]
theorem goN_cons {P : List Int → Bool} {l : List Int} {f : Nat} {now : List Int} {i : Nat} (h : i < l.length) : goN P l f now i = (cnF P l f (i + 1) (now ++ [l.getD i 0]) || goN P l f now (i + 1)) := by
  rw [goN, show l.length - i = (l.length - (i + 1)) + 1 by omega, List.range'_succ, List.any_cons]
  rfl
/-- They hide as much. -/
def sameV (g : Rg) (now : List Int) : Bool := (List.range 60).all fun i => byF g now i == g.p i
structure Cn where
  bb : Nat
  bl : Nat
  bc : Nat
  wa : Option Addr
  wn : Nat
  wc : Nat
  oa : Option Addr
  on : Nat
  oc : Nat
  ma : Option Addr
  mn : Nat
  mc : Nat
  la : Option Addr
  ln : Nat
  lc : Nat
abbrev Cn.caps (B : Cn) : Array Value := #[bptr B.bb, bptr B.bl, bptr B.bc]
abbrev cnV (B : Cn) : Value := .func (.func 65) #[] B.caps
abbrev cnG (B : Cn) (g : Rg) : List Value := rgl (.slice B.wa B.wn B.wc) (.slice B.oa B.on B.oc) (.slice B.ma B.mn B.mc) g.r.cols g.x.year g.p
abbrev ledN (B : Cn) (g : Rg) : List LE := [⟨B.bb, false, .cells (cnG B g) 97⟩, ⟨B.bl, false, .cells [.slice B.la B.ln B.lc] 26⟩, ⟨B.bc, false, .cells [cnV B] 121⟩]
abbrev rowN (br n0 n cap : Nat) (now : List Int) (rest : List Value) : LE := ⟨br, true, .row n0 n cap (now.map I) rest 3 1⟩
structure CtxN (B : Cn) (g : Rg) (l : List Int) (G : Hp) : Prop where
  r : RgC G (.slice B.wa B.wn B.wc) (.slice B.oa B.on B.oc) (.slice B.ma B.mn B.mc) g
  l : SlV intE G (.slice B.la B.ln B.lc) l
theorem CtxN.grow {B : Cn} {g : Rg} {l : List Int} {G G' : Hp} (hg : Grow G G') (h : CtxN B g l G) : CtxN B g l G' := ⟨h.r.grow hg, h.l.grow hg⟩
section
variable (B : Cn) (g : Rg) (l : List Int)
def cnPre (f : Nat) (args : List Value) (ls : List LE) (G : Hp) : Prop := ∃ (now : List Int) (fr br n0 n cap : Nat) (rest : List Value),
  args = [.slice (some ⟨br, 0, none⟩) n cap, I fr, I f] ∧ ls = ledN B g ++ [rowN br n0 n cap now rest] ∧ n = now.length ∧ 1 ≤ n ∧ n + f ≤ 40 ∧ (∀ x ∈ now, x ∈ l) ∧ fr ≤ l.length ∧ CtxN B g l G
def cnPost (f : Nat) (args : List Value) (ls : List LE) (v : Value) (ns : List LB) (_ : Hp) : Prop := ∃ (now : List Int) (fr br n0 n cap : Nat) (rest rest' : List Value),
  args = [.slice (some ⟨br, 0, none⟩) n cap, I fr, I f] ∧ ls = ledN B g ++ [rowN br n0 n cap now rest] ∧ v = .bool (cnF (sameV g) l f fr now) ∧ ns = [.row n0 n cap (now.map I) rest' 3 1] ∧ rest'.length = (cap - n) * 1
abbrev cnS (f : Nat) : PSpec := .st (cnPre B g l f) (cnPost B g l f)
end
theorem mapI_inj {l l' : List Int} (h : l.map I = l'.map I) : l = l' := (List.map_inj_right (fun a b h => by injection h)).1 h
theorem fin4N {H : Nat → Option OB} {B : Cn} {g : Rg} {br n0 n cap : Nat} {now : List Int} {rest rest' : List Value} (hn : n0 ≤ n) (h1 : H 0 = some (.cells (.named B.bb) ((cnG B g).map .val) 97)) (h2 : H 1 = some (.cells (.named B.bl) [.val (.slice B.la B.ln B.lc)] 26)) (h3 : H 2 = some (.cells (.named B.bc) [.val (cnV B)] 121))
    (h4 : H 3 = some (.xrow br n cap (now.map I) rest' 3 1)) : finL H 0 (ledN B g ++ [rowN br n0 n cap now rest]) [.row n0 n cap (now.map I) rest' 3 1] :=
  ⟨.cells (cnG B g) 97, ⟨_, h1, toValsH_map _ _⟩, trivial, rfl, .cells [.slice B.la B.ln B.lc] 26, ⟨_, h2, rfl⟩, trivial, rfl, .cells [cnV B] 121, ⟨_, h3, rfl⟩, trivial, rfl, .row n0 n cap (now.map I) rest' 3 1, ⟨h4, hn⟩, ⟨rfl, rfl, rfl, rfl, rfl⟩, _, rfl, rfl⟩
theorem fin3N {H : Nat → Option OB} {B : Cn} {g : Rg} (h1 : H 0 = some (.cells (.named B.bb) ((cnG B g).map .val) 97)) (h2 : H 1 = some (.cells (.named B.bl) [.val (.slice B.la B.ln B.lc)] 26)) (h3 : H 2 = some (.cells (.named B.bc) [.val (cnV B)] 121)) : finL H 0 (ledN B g) [] :=
  ⟨.cells (cnG B g) 97, ⟨_, h1, toValsH_map _ _⟩, trivial, rfl, .cells [.slice B.la B.ln B.lc] 26, ⟨_, h2, rfl⟩, trivial, rfl, .cells [cnV B] 121, ⟨_, h3, rfl⟩, trivial, rfl, rfl⟩
theorem lendN {H : Nat → Option OB} {B : Cn} {g : Rg} {h br n0 n cap : Nat} {now : List Int} {rest vs0 rest0 : List Value} (h1 : H 0 = some (.cells (.named B.bb) ((cnG B g).map .val) 97)) (h2 : H 1 = some (.cells (.named B.bl) [.val (.slice B.la B.ln B.lc)] 26)) (h3 : H 2 = some (.cells (.named B.bc) [.val (cnV B)] 121))
    (h4 : H h = some (.xrow br n0 cap vs0 rest0 3 1)) (hs : vs0 ++ rest0 = now.map I ++ rest) (hone : LB.one (.row n0 n cap (now.map I) rest 3 1)) :
    lendOk H [(0, ⟨B.bb, false, .cells (cnG B g) 97⟩), (1, ⟨B.bl, false, .cells [.slice B.la B.ln B.lc] 26⟩), (2, ⟨B.bc, false, .cells [cnV B] 121⟩), (h, rowN br n0 n cap now rest)] :=
  ⟨⟨_, h1, toValsH_map _ _⟩, ⟨_, h2, rfl⟩, ⟨_, h3, rfl⟩, by simp only [h4]; exact ⟨_, _, rfl, hs, hone⟩, trivial⟩
theorem ledN_inj {B : Cn} {g : Rg} {br n0 n cap br' n0' n' cap' : Nat} {now now' : List Int} {rest rest' : List Value} (h : ledN B g ++ [rowN br n0 n cap now rest] = ledN B g ++ [rowN br' n0' n' cap' now' rest']) : br = br' ∧ n0 = n0' ∧ n = n' ∧ cap = cap' ∧ now = now' ∧ rest = rest' := by
  have h := List.append_cancel_left h
  simp only [List.cons.injEq, LE.mk.injEq, LB.row.injEq, and_true, true_and] at h
  obtain ⟨h1, h2, h3, h4, h5, h6⟩ := h
  exact ⟨h1, h2, h3, h4, mapI_inj h5, h6⟩
theorem und95 : Try.prog.underlying 95 = some (.array 60 4) := by kernel_rfl
theorem und4 : Try.prog.underlying 4 = some .bool := by kernel_rfl
theorem eq95 (p q : Nat → Bool) : ∀ w, ((POp.bin .eql 95).sem [.agg (vll p).toArray, .agg (vll q).toArray]).run Try.prog w = .ok (.bool ((List.range 60).all fun i => p i == q i)) w :=
  pur_eqB und95 und4 (by kernel_rfl) (by kernel_rfl) p q
/-- A row that is lent is read by a call of a draw. -/
theorem objs_rowI {G : Hp} {b n cap : Nat} {l : List Int} {rest : List Value} (hG : G b = some (.cells (l.map I ++ rest).toArray 3 (0, 0))) (hl : l.length = n) (hc : n ≤ cap) (hb : n ≤ 140737488355328) : SlV intE G (.slice (some ⟨b, 0, none⟩) n cap) l := by
  refine PubRow.slV (e := intE) (vs := l.map I) ⟨hc, fun _ => rfl, fun j v hj => ?_⟩ (mapI_flat l) hl hb
  have hj2 : j < (l.map I).length := (List.getElem?_eq_some_iff.1 hj).1
  show rd1 _ b (0 + j) = _
  simp only [rd1, hG, Nat.zero_add]
  simp only [List.getElem?_toArray, List.getElem?_append_left hj2, hj]
theorem can65 {B : Cn} {g : Rg} {l : List Int} (hi : ∀ k ∈ l, 0 ≤ k ∧ k < g.r.orders.length) (ho : ∀ o ∈ g.r.orders, 0 ≤ o.f ∧ o.f ≤ o.t ∧ o.t ≤ 60) :
    ∀ f, Sound Try.prog 65 (fun a => (#[] : Array Value).toList ++ a ++ B.caps.toList) (cnS B g l f) := by
  intro f
  induction f with
  | zero =>
    refine ⟨fun args ls v ns G G' hg h => h, fun args ls G Wd hsub hls hnd hpre => ?_⟩
    obtain ⟨now, fr, br, n0, n, cap, rest, rfl, rfl, hnl, hn1, hnf, hmem, hfr, hctx⟩ := hpre
    have hone := (hls (rowN br n0 n cap now rest) (by simp)).2.2
    obtain ⟨z1, z2, z3, z4, z5, z6⟩ := id hone
    refine st_sound (Tab.cons 62 _ by62 body62 (Tab.nil _)) comp65 (svs := [.c (.row 3 n), .v (I fr), .v (I (0 : Nat)), .c (.ptr 0 0), .c (.ptr 1 0), .c (.ptr 2 0)])
      (obs := [.cells (.named B.bb) ((cnG B g).map .val) 97, .cells (.named B.bl) [.val (.slice B.la B.ln B.lc)] 26, .cells (.named B.bc) [.val (cnV B)] 121, .xrow br n cap (now.map I) rest 3 1]) (by simp) hsub hls hnd (Nat.le_refl _) ?_ ?_ ?_
    · exact ⟨⟨rfl, _, _, rfl⟩, (Nat.le_of_ble_eq_true rfl : 3 < 4), rfl, trivial, rfl, trivial, ⟨_, rfl, rfl⟩, (Nat.le_of_ble_eq_true rfl : 0 < 4), ⟨_, rfl, rfl⟩, (Nat.le_of_ble_eq_true rfl : 1 < 4), ⟨_, rfl, rfl⟩, (Nat.le_of_ble_eq_true rfl : 2 < 4), trivial⟩
    · refine ⟨⟨_, rfl, relL_vals _ (cnG B g), ?_⟩, ⟨_, rfl, relL_vals _ [.slice B.la B.ln B.lc], ?_⟩, ⟨_, rfl, relL_vals _ [cnV B], ?_⟩, rfl, trivial⟩
      · intro c hc; obtain ⟨v, _, rfl⟩ := List.mem_map.1 hc; trivial
      all_goals (intro c hc; simp at hc; subst hc; trivial)
    · (conv => whnf)
      refine IteP.mk (fun _ => W.mk ?_) (fun h => absurd rfl h)
      (conv => whnf)
      have hcap : n ≤ cap := z4
      have hbig : n ≤ 140737488355328 := by omega
      have hok : ByOk g now := ⟨fun k hk => hi k (hmem k hk), ho⟩
      refine ScaP.mk (fun G1 hg1 hob => ⟨(g, now), _, _, rfl, ⟨_, _, _, rfl, hctx.r.grow hg1⟩, objs_rowI (hob (br, .cells (now.map I ++ rest).toArray 3 (0, 0)) (List.Mem.head _)) hnl.symm hcap hbig, hok⟩) (fun v hv => W.mk ?_)
      obtain ⟨G1, hg1, hob, y, hy, rfl⟩ := hv
      have : y = (g, now) := (ok2 rgRd (slRd intE) ByOk).uniq _ _ _ _ hy ⟨_, _, rfl, ⟨_, _, _, rfl, hctx.r.grow hg1⟩, objs_rowI (hob (br, .cells (now.map I ++ rest).toArray 3 (0, 0)) (List.Mem.head _)) hnl.symm hcap hbig, hok⟩
      subst this
      dsimp only
      (conv => whnf)
      refine PurP.of _ (eq95 (byF g now) g.p) (W.mk ?_)
      (conv => whnf)
      have hfin : ∀ b, sameV g now = b → cnPost B g l 0 [.slice (some ⟨br, 0, none⟩) n cap, I fr, I (0 : Nat)] (ledN B g ++ [rowN br n0 n cap now rest]) (.bool b) [.row n0 n cap (now.map I) rest 3 1] G :=
        fun b hb => ⟨now, fr, br, n0, n, cap, rest, rest, rfl, rfl, by rw [← hb]; rfl, rfl, z3⟩
      refine ForkP.mk (fun hm => W.mk ?_) (fun hm => W.mk ?_) <;> (conv => whnf) <;> exact FinS.mk ⟨_, fin4N z1 rfl rfl rfl rfl, hfin _ hm⟩
  | succ f ih =>
    refine ⟨fun args ls v ns G G' hg h => h, fun args ls G Wd hsub hls hnd hpre => ?_⟩
    obtain ⟨now, fr, br, n0, n, cap, rest, rfl, rfl, hnl, hn1, hnf, hmem, hfr, hctx⟩ := hpre
    have hone := (hls (rowN br n0 n cap now rest) (by simp)).2.2
    obtain ⟨z1, z2, z3, z4, z5, z6⟩ := id hone
    refine st_sound (Tab.nil _) comp65 (svs := [.c (.row 3 n), .v (I fr), .v (I (f + 1 : Nat)), .c (.ptr 0 0), .c (.ptr 1 0), .c (.ptr 2 0)])
      (obs := [.cells (.named B.bb) ((cnG B g).map .val) 97, .cells (.named B.bl) [.val (.slice B.la B.ln B.lc)] 26, .cells (.named B.bc) [.val (cnV B)] 121, .xrow br n cap (now.map I) rest 3 1]) (by simp) hsub hls hnd (Nat.le_refl _) ?_ ?_ ?_
    · exact ⟨⟨rfl, _, _, rfl⟩, (Nat.le_of_ble_eq_true rfl : 3 < 4), rfl, trivial, rfl, trivial, ⟨_, rfl, rfl⟩, (Nat.le_of_ble_eq_true rfl : 0 < 4), ⟨_, rfl, rfl⟩, (Nat.le_of_ble_eq_true rfl : 1 < 4), ⟨_, rfl, rfl⟩, (Nat.le_of_ble_eq_true rfl : 2 < 4), trivial⟩
    · refine ⟨⟨_, rfl, relL_vals _ (cnG B g), ?_⟩, ⟨_, rfl, relL_vals _ [.slice B.la B.ln B.lc], ?_⟩, ⟨_, rfl, relL_vals _ [cnV B], ?_⟩, rfl, trivial⟩
      · intro c hc; obtain ⟨v, _, rfl⟩ := List.mem_map.1 hc; trivial
      all_goals (intro c hc; simp at hc; subst hc; trivial)
    · (conv => whnf)
      refine IteP.mk (fun h => by exfalso; omega) (fun _ => W.mk ?_)
      (conv => whnf)
      have hnl2 : (now.map I).length = n := by simp [hnl]
      refine LoopP.of { α := Nat × List Value, fr := fun x => [(0, .c (.row 3 n)), (2, .v (I (f + 1 : Nat))), (3, .c (.ptr 0 0)), (4, .c (.ptr 1 0)), (5, .c (.ptr 2 0)), (10, .v (I x.1))], H := fun x => [(0, .cells (.named B.bb) ((cnG B g).map .val) 97), (1, .cells (.named B.bl) [.val (.slice B.la B.ln B.lc)] 26), (2, .cells (.named B.bc) [.val (cnV B)] 121), (3, .xrow br n cap (now.map I) x.2 3 1)], ok := fun x _ => x.1 ≤ l.length ∧ x.2.length = (cap - n) * 1 ∧ goN (sameV g) l f now x.1 = cnF (sameV g) l (f + 1) fr now, m := fun x => l.length - x.1 }
        (fr, rest) (HeadP.of [] ⟨rfl, rfl, rfl, rfl, rfl, rfl, trivial⟩ ⟨rfl, rfl, rfl, rfl, trivial⟩) ⟨hfr, z3, rfl⟩ (fun _ => ⟨rfl, rfl⟩) (fun x G1 hG1 hx => W.mk ?_)
      obtain ⟨i, rs⟩ := x
      obtain ⟨hi, hrs, hgo⟩ := hx
      dsimp only at hi hrs hgo
      have hctx1 := hctx.grow hG1
      obtain ⟨_, _, _, e1, hdl, hdn⟩ := hctx1.l
      cases e1
      have hdlen := hdl.len
      have hz1 : n0 ≤ n := z1
      dsimp only
      (conv => whnf)
      refine IteP.mk (fun hlt => W.mk ?_) (fun hge => W.mk ?_) <;> (conv => whnf)
      · have hlt : i < l.length := by omega
        have hce := hdl.el hlt
        have hgd : l.getD i 0 = l[i] := by simp [hlt]
        have hxm : l[i] ∈ l := List.getElem_mem hlt
        rw [goN_cons hlt, hgd] at hgo
        generalize l[i] = x at hce hgd hxm hgo
        refine DrawP.mk monoT_nil rfl (W.mk ?_)
        (conv => whnf)
        repeat' (first | (refine OblP.mk ?_ (W.mk ?_); (first | trivial | omega | (simp only [inR]; omega) | exact Nat.le_of_ble_eq_true (by rfl) | exact SlR.some (by assumption) (by omega)); (conv => whnf)) | (first | (refine RdP.at (by assumption) (by rfl) (W.mk ?_); (conv => whnf)) | (refine RdP.sub (by assumption) (by rfl) (W.mk ?_); (conv => whnf)) | (refine RdP.sub2 (by assumption) (by rfl) (W.mk ?_); (conv => whnf)) | (refine RdP.sub3 (by assumption) (by rfl) (W.mk ?_); (conv => whnf))))
        repeat' (first | (refine OblP.mk rfl (W.mk ?_); (conv => whnf)) | (refine OblP.mk ?_ (W.mk ?_); (first | trivial | omega | (simp only [inR]; omega) | exact Nat.le_of_ble_eq_true (by rfl) | exact SlR.some (by assumption) (by omega)); (conv => whnf)))
        have hlx : (now ++ [x]).length = n + 1 := by simp [hnl]
        have hml : ((now ++ [x]).map I).length = n + 1 := by simp [hnl]
        have hone2 : ∀ v ∈ (now ++ [x]).map I, v.oneCell' = true := fun v hv => by obtain ⟨y, _, rfl⟩ := List.mem_map.1 hv; rfl
        have hmem2 : ∀ y ∈ now ++ [x], y ∈ l := fun y hy => by
          rcases List.mem_append.1 hy with h | h
          · exact hmem y h
          · simp at h; subst h; exact hxm
        have hf1 : (((f + 1 : Nat) : Int) - 1) = (f : Int) := by omega
        refine IteP.mk (fun hroom => W.mk ?_) (fun hroom => W.mk ?_) <;> (conv => whnf)
        · have hroom : n + 1 ≤ cap := by omega
          repeat' (refine OblP.mk ?_ (W.mk ?_); (first | trivial | omega | (simp only [inR]; omega) | exact Nat.le_of_ble_eq_true (by rfl) | exact SlR.some (by assumption) (by omega)); (conv => whnf))
          refine FnvP.mk ⟨_, SoundFn.of body65 ih, W.mk ?_⟩
          (conv => whnf)
          have hlr : (rs.drop (1 * 1)).length = (cap - (n + 1)) * 1 := by simp only [List.length_drop]; omega
          refine StP.mk ⟨[(0, ⟨B.bb, false, .cells (cnG B g) 97⟩), (1, ⟨B.bl, false, .cells [.slice B.la B.ln B.lc] 26⟩), (2, ⟨B.bc, false, .cells [cnV B] 121⟩), (3, rowN br n (n + 1) cap (now ++ [x]) (rs.drop (1 * 1)))],
            lendN rfl rfl rfl rfl (by simp) ⟨by omega, by rw [hml]; omega, hlr, hroom, z5, hone2⟩, (by show ([0, 1, 2, 3] : List Nat).Nodup; decide),
            ⟨now ++ [x], i + 1, br, n, n + 1, cap, rs.drop (1 * 1), by rw [hf1]; rfl, rfl, hlx.symm, by omega, by omega, hmem2, hlt, hctx1⟩, fun v ns G3 hg3 hpost => W.mk ?_⟩
          obtain ⟨now', fr', br', n0', n', cap', rest', rest2, q1, q2, rfl, rfl, hrl⟩ := hpost
          obtain ⟨rfl, rfl, rfl, rfl, rfl, rfl⟩ := ledN_inj q2
          rw [hf1] at q1
          simp only [List.cons.injEq, and_true, true_and, Value.int.injEq] at q1
          have hfr' : fr' = i + 1 := by omega
          subst hfr'
          have et : ((now ++ [x]).map I ++ rest2).take (n * 1) = now.map I := by
            rw [Nat.mul_one, List.map_append, List.append_assoc]; exact List.take_left' hnl2
          have hrl2 : (((now ++ [x]).map I ++ rest2).drop (n * 1)).length = (cap - n) * 1 := by
            simp only [List.length_drop, List.length_append, hml, hrl]; omega
          have hspec : ∀ b, (cnF (sameV g) l f (i + 1) (now ++ [x]) || goN (sameV g) l f now (i + 1)) = b → cnPost B g l (f + 1) [.slice (some ⟨br, 0, none⟩) n cap, I fr, I (f + 1 : Nat)] (ledN B g ++ [rowN br n0 n cap now rest]) (.bool b) [.row n0 n cap (now.map I) (((now ++ [x]).map I ++ rest2).drop (n * 1)) 3 1] G3 := fun b hb =>
            ⟨now, fr, br, n0, n, cap, rest, _, rfl, rfl, by rw [← hb, hgo], rfl, hrl2⟩
          (conv => whnf)
          refine ForkP.mk (fun hm => W.mk ?_) (fun hm => W.mk ?_) <;> (conv => whnf)
          · have e4 := (by show OB.xrow br n cap (now.map I) (((now ++ [x]).map I ++ rest2).drop (n * 1)) 3 1 = OB.xrow br n cap (((now ++ [x]).map I ++ rest2).take (n * 1)) (((now ++ [x]).map I ++ rest2).drop (n * 1)) 3 1; rw [et])
            refine FinS.mk ⟨_, fin4N z1 rfl rfl rfl (congrArg some e4.symm), hspec true (by rw [hm]; rfl)⟩
          · repeat' (refine OblP.mk ?_ (W.mk ?_); (first | trivial | omega | (simp only [inR]; omega) | exact Nat.le_of_ble_eq_true (by rfl) | exact SlR.some (by assumption) (by omega)); (conv => whnf))
            rw [hm, Bool.false_or] at hgo
            refine RoundP.of (i + 1, (((now ++ [x]).map I ++ rest2).drop (n * 1))) (HeadP.of [] ⟨rfl, rfl, rfl, rfl, rfl, rfl, trivial⟩ ⟨rfl, rfl, rfl, (by show OB.xrow br n cap (now.map I) (((now ++ [x]).map I ++ rest2).drop (n * 1)) 3 1 = OB.xrow br n cap (((now ++ [x]).map I ++ rest2).take (n * 1)) (((now ++ [x]).map I ++ rest2).drop (n * 1)) 3 1; rw [et]), trivial⟩) ⟨hlt, hrl2, hgo⟩ (by simp only; omega)
        · repeat' (refine OblP.mk ?_ (W.mk ?_); (first | trivial | omega | (simp only [inR]; omega) | exact Nat.le_of_ble_eq_true (by rfl) | exact SlR.some (by assumption) (by omega)); (conv => whnf))
          refine PubP.opn (Nat.succ_ne_zero n) (fun bb cap2 rest2 g1 g2 g3 => W.mk ?_)
          (conv => whnf)
          refine FnvP.mk ⟨_, SoundFn.of body65 ih, W.mk ?_⟩
          (conv => whnf)
          refine StP.mk ⟨[(0, ⟨B.bb, false, .cells (cnG B g) 97⟩), (1, ⟨B.bl, false, .cells [.slice B.la B.ln B.lc] 26⟩), (2, ⟨B.bc, false, .cells [cnV B] 121⟩), (27, rowN bb (n + 1) (n + 1) cap2 (now ++ [x]) rest2)],
            lendN rfl rfl rfl rfl (by simp) ⟨Nat.le_refl _, by rw [hml]; omega, g3, g1, g2, hone2⟩, (by show ([0, 1, 2, 27] : List Nat).Nodup; decide),
            ⟨now ++ [x], i + 1, bb, n + 1, n + 1, cap2, rest2, by rw [hf1]; rfl, rfl, hlx.symm, by omega, by omega, hmem2, hlt, hctx1⟩, fun v ns G3 hg3 hpost => W.mk ?_⟩
          obtain ⟨now', fr', br', n0', n', cap', rest', rest3, q1, q2, rfl, rfl, hrl⟩ := hpost
          obtain ⟨rfl, rfl, rfl, rfl, rfl, rfl⟩ := ledN_inj q2
          rw [hf1] at q1
          simp only [List.cons.injEq, and_true, true_and, Value.int.injEq] at q1
          have hfr' : fr' = i + 1 := by omega
          subst hfr'
          have hspec : ∀ b, (cnF (sameV g) l f (i + 1) (now ++ [x]) || goN (sameV g) l f now (i + 1)) = b → cnPost B g l (f + 1) [.slice (some ⟨br, 0, none⟩) n cap, I fr, I (f + 1 : Nat)] (ledN B g ++ [rowN br n0 n cap now rest]) (.bool b) [.row n0 n cap (now.map I) rs 3 1] G3 := fun b hb =>
            ⟨now, fr, br, n0, n, cap, rest, _, rfl, rfl, by rw [← hb, hgo], rfl, hrs⟩
          (conv => whnf)
          refine ForkP.mk (fun hm => W.mk ?_) (fun hm => W.mk ?_) <;> (conv => whnf)
          · have e4 := (rfl : OB.xrow br n cap (now.map I) rs 3 1 = _)
            refine FinS.mk ⟨_, fin4N z1 rfl rfl rfl (congrArg some e4.symm), hspec true (by rw [hm]; rfl)⟩
          · repeat' (refine OblP.mk ?_ (W.mk ?_); (first | trivial | omega | (simp only [inR]; omega) | exact Nat.le_of_ble_eq_true (by rfl) | exact SlR.some (by assumption) (by omega)); (conv => whnf))
            rw [hm, Bool.false_or] at hgo
            refine RoundP.of (i + 1, rs) (HeadP.of [] ⟨rfl, rfl, rfl, rfl, rfl, rfl, trivial⟩ ⟨rfl, rfl, rfl, (rfl : OB.xrow br n cap (now.map I) rs 3 1 = _), trivial⟩) ⟨hlt, hrs, hgo⟩ (by simp only; omega)
      · have hie : i = l.length := by omega
        subst hie
        rw [goN_end] at hgo
        have hfin : cnPost B g l (f + 1) [.slice (some ⟨br, 0, none⟩) n cap, I fr, I (f + 1 : Nat)] (ledN B g ++ [rowN br n0 n cap now rest]) (.bool false) [.row n0 n cap (now.map I) rs 3 1] G1 :=
          ⟨now, fr, br, n0, n, cap, rest, rs, rfl, rfl, by rw [← hgo], rfl, hrs⟩
        exact FinS.mk ⟨_, fin4N z1 rfl rfl rfl rfl, hfin⟩
end Go.Proofs.Ytpcpjmplgladmaa

namespace Go.Proofs.Ytpcpjmplgladmaa
open Go.Pal
set_option maxRecDepth 100000
abbrev nilV : Value := .slice none 0 0
section
variable (B : Cn) (g : Rg) (l : List Int)
def c0Pre (f : Nat) (args : List Value) (ls : List LE) (G : Hp) : Prop := args = [nilV, I 0, I f] ∧ ls = ledN B g ∧ f ≤ 39 ∧ CtxN B g l G
def c0Post (f : Nat) (args : List Value) (ls : List LE) (v : Value) (ns : List LB) (_ : Hp) : Prop := args = [nilV, I 0, I f] ∧ ls = ledN B g ∧ v = .bool (cnF (sameV g) l f 0 []) ∧ ns = []
abbrev c0S (f : Nat) : PSpec := .st (c0Pre B g l f) (c0Post B g l f)
end
theorem can65n {B : Cn} {g : Rg} {l : List Int} (hi : ∀ k ∈ l, 0 ≤ k ∧ k < g.r.orders.length) (ho : ∀ o ∈ g.r.orders, 0 ≤ o.f ∧ o.f ≤ o.t ∧ o.t ≤ 60) (f : Nat) :
    Sound Try.prog 65 (fun a => (#[] : Array Value).toList ++ a ++ B.caps.toList) (c0S B g l f) := by
  cases f with
  | zero =>
    refine ⟨fun args ls v ns G G' hg h => h, fun args ls G Wd hsub hls hnd hpre => ?_⟩
    obtain ⟨rfl, rfl, hf, hctx⟩ := hpre
    refine st_sound (Tab.cons 62 _ by62 body62 (Tab.nil _)) comp65 (svs := [.v nilV, .v (I 0), .v (I (0 : Nat)), .c (.ptr 0 0), .c (.ptr 1 0), .c (.ptr 2 0)])
      (obs := [.cells (.named B.bb) ((cnG B g).map .val) 97, .cells (.named B.bl) [.val (.slice B.la B.ln B.lc)] 26, .cells (.named B.bc) [.val (cnV B)] 121]) (by simp) hsub hls hnd (Nat.le_of_ble_eq_true rfl) ?_ ?_ ?_
    · exact ⟨rfl, trivial, rfl, trivial, rfl, trivial, ⟨_, rfl, rfl⟩, (Nat.le_of_ble_eq_true rfl : 0 < 4), ⟨_, rfl, rfl⟩, (Nat.le_of_ble_eq_true rfl : 1 < 4), ⟨_, rfl, rfl⟩, (Nat.le_of_ble_eq_true rfl : 2 < 4), trivial⟩
    · refine ⟨⟨_, rfl, relL_vals _ (cnG B g), ?_⟩, ⟨_, rfl, relL_vals _ [.slice B.la B.ln B.lc], ?_⟩, ⟨_, rfl, relL_vals _ [cnV B], ?_⟩, trivial⟩
      · intro c hc; obtain ⟨v, _, rfl⟩ := List.mem_map.1 hc; trivial
      all_goals (intro c hc; simp at hc; subst hc; trivial)
    · (conv => whnf)
      refine IteP.mk (fun _ => W.mk ?_) (fun h => absurd rfl h)
      (conv => whnf)
      refine ScaP.g (ok2 rgRd (slRd intE) ByOk) (x := (g, [])) ⟨_, _, rfl, ⟨_, _, _, rfl, hctx.r⟩, SlV.nil, fun k hk => (by cases hk), ho⟩ (fun v hv => W.mk ?_)
      subst hv
      dsimp only
      (conv => whnf)
      refine PurP.of _ (eq95 (byF g []) g.p) (W.mk ?_)
      (conv => whnf)
      have hfin : ∀ b, sameV g [] = b → c0Post B g l 0 [nilV, I 0, I (0 : Nat)] (ledN B g) (.bool b) [] G := fun b hb => ⟨rfl, rfl, by rw [← hb]; rfl, rfl⟩
      refine ForkP.mk (fun hm => W.mk ?_) (fun hm => W.mk ?_) <;> (conv => whnf) <;> exact FinS.mk ⟨_, fin3N rfl rfl rfl, hfin _ hm⟩
  | succ f =>
    have ih := can65 (B := B) hi ho f
    refine ⟨fun args ls v ns G G' hg h => h, fun args ls G Wd hsub hls hnd hpre => ?_⟩
    obtain ⟨rfl, rfl, hf, hctx⟩ := hpre
    refine st_sound (Tab.nil _) comp65 (svs := [.v nilV, .v (I 0), .v (I (f + 1 : Nat)), .c (.ptr 0 0), .c (.ptr 1 0), .c (.ptr 2 0)])
      (obs := [.cells (.named B.bb) ((cnG B g).map .val) 97, .cells (.named B.bl) [.val (.slice B.la B.ln B.lc)] 26, .cells (.named B.bc) [.val (cnV B)] 121]) (by simp) hsub hls hnd (Nat.le_of_ble_eq_true rfl) ?_ ?_ ?_
    · exact ⟨rfl, trivial, rfl, trivial, rfl, trivial, ⟨_, rfl, rfl⟩, (Nat.le_of_ble_eq_true rfl : 0 < 4), ⟨_, rfl, rfl⟩, (Nat.le_of_ble_eq_true rfl : 1 < 4), ⟨_, rfl, rfl⟩, (Nat.le_of_ble_eq_true rfl : 2 < 4), trivial⟩
    · refine ⟨⟨_, rfl, relL_vals _ (cnG B g), ?_⟩, ⟨_, rfl, relL_vals _ [.slice B.la B.ln B.lc], ?_⟩, ⟨_, rfl, relL_vals _ [cnV B], ?_⟩, trivial⟩
      · intro c hc; obtain ⟨v, _, rfl⟩ := List.mem_map.1 hc; trivial
      all_goals (intro c hc; simp at hc; subst hc; trivial)
    · (conv => whnf)
      refine IteP.mk (fun h => by exfalso; omega) (fun _ => W.mk ?_)
      (conv => whnf)
      refine LoopP.of { α := Nat, fr := fun x => [(0, .v nilV), (2, .v (I (f + 1 : Nat))), (3, .c (.ptr 0 0)), (4, .c (.ptr 1 0)), (5, .c (.ptr 2 0)), (10, .v (I x))], H := fun x => [(0, .cells (.named B.bb) ((cnG B g).map .val) 97), (1, .cells (.named B.bl) [.val (.slice B.la B.ln B.lc)] 26), (2, .cells (.named B.bc) [.val (cnV B)] 121)], ok := fun x _ => x ≤ l.length ∧ goN (sameV g) l f [] x = cnF (sameV g) l (f + 1) 0 [], m := fun x => l.length - x }
        0 (HeadP.of [] ⟨rfl, rfl, rfl, rfl, rfl, rfl, trivial⟩ ⟨rfl, rfl, rfl, trivial⟩) ⟨Nat.zero_le _, rfl⟩ (fun _ => ⟨rfl, rfl⟩) (fun (i : Nat) G1 hG1 hx => W.mk ?_)
      obtain ⟨hi, hgo⟩ := hx
      have hctx1 := hctx.grow hG1
      obtain ⟨_, _, _, e1, hdl, hdn⟩ := hctx1.l
      cases e1
      have hdlen := hdl.len
      dsimp only
      (conv => whnf)
      refine IteP.mk (fun hlt => W.mk ?_) (fun hge => W.mk ?_) <;> (conv => whnf)
      · have hlt : i < l.length := by omega
        have hce := hdl.el hlt
        have hgd : l.getD i 0 = l[i] := by simp [hlt]
        have hxm : l[i] ∈ l := List.getElem_mem hlt
        rw [goN_cons hlt, hgd, List.nil_append] at hgo
        generalize l[i] = x at hce hgd hxm hgo
        refine DrawP.mk monoT_nil rfl (W.mk ?_)
        (conv => whnf)
        repeat' (first | (refine OblP.mk ?_ (W.mk ?_); (first | trivial | omega | (simp only [inR]; omega) | exact Nat.le_of_ble_eq_true (by rfl) | exact SlR.some (by assumption) (by omega)); (conv => whnf)) | (first | (refine RdP.at (by assumption) (by rfl) (W.mk ?_); (conv => whnf)) | (refine RdP.sub (by assumption) (by rfl) (W.mk ?_); (conv => whnf)) | (refine RdP.sub2 (by assumption) (by rfl) (W.mk ?_); (conv => whnf)) | (refine RdP.sub3 (by assumption) (by rfl) (W.mk ?_); (conv => whnf))))
        repeat' (first | (refine OblP.mk rfl (W.mk ?_); (conv => whnf)) | (refine OblP.mk ?_ (W.mk ?_); (first | trivial | omega | (simp only [inR]; omega) | exact Nat.le_of_ble_eq_true (by rfl) | exact SlR.some (by assumption) (by omega)); (conv => whnf)))
        have hf1 : (((f + 1 : Nat) : Int) - 1) = (f : Int) := by omega
        refine PubP.opn (Nat.succ_ne_zero 0) (fun bb cap2 rest2 g1 g2 g3 => W.mk ?_)
        (conv => whnf)
        refine FnvP.mk ⟨_, SoundFn.of body65 ih, W.mk ?_⟩
        (conv => whnf)
        have hone2 : ∀ v ∈ [x].map I, v.oneCell' = true := fun v hv => by obtain ⟨y, _, rfl⟩ := List.mem_map.1 hv; rfl
        refine StP.mk ⟨[(0, ⟨B.bb, false, .cells (cnG B g) 97⟩), (1, ⟨B.bl, false, .cells [.slice B.la B.ln B.lc] 26⟩), (2, ⟨B.bc, false, .cells [cnV B] 121⟩), (27, rowN bb 1 1 cap2 [x] rest2)],
          lendN rfl rfl rfl rfl (by simp) ⟨Nat.le_refl _, rfl, g3, g1, g2, hone2⟩, (by show ([0, 1, 2, 27] : List Nat).Nodup; decide),
          ⟨[x], i + 1, bb, 1, 1, cap2, rest2, by rw [hf1]; rfl, rfl, rfl, Nat.le_refl _, by omega, (fun y hy => by simp at hy; subst hy; exact hxm), hlt, hctx1⟩, fun v ns G3 hg3 hpost => W.mk ?_⟩
        obtain ⟨now', fr', br', n0', n', cap', rest', rest3, q1, q2, rfl, rfl, hrl⟩ := hpost
        obtain ⟨rfl, rfl, rfl, rfl, rfl, rfl⟩ := ledN_inj q2
        rw [hf1] at q1
        simp only [List.cons.injEq, and_true, true_and, Value.int.injEq] at q1
        have hfr' : fr' = i + 1 := by omega
        subst hfr'
        (conv => whnf)
        refine ForkP.mk (fun hm => W.mk ?_) (fun hm => W.mk ?_) <;> (conv => whnf)
        · refine FinS.mk ⟨_, fin3N rfl rfl rfl, rfl, rfl, ?_, rfl⟩
          rw [← hgo, hm]; rfl
        · repeat' (refine OblP.mk ?_ (W.mk ?_); (first | trivial | omega | (simp only [inR]; omega) | exact Nat.le_of_ble_eq_true (by rfl) | exact SlR.some (by assumption) (by omega)); (conv => whnf))
          rw [hm, Bool.false_or] at hgo
          exact RoundP.of (i + 1) (HeadP.of [] ⟨rfl, rfl, rfl, rfl, rfl, rfl, trivial⟩ ⟨rfl, rfl, rfl, trivial⟩) ⟨hlt, hgo⟩ (by simp only; omega)
      · have hie : i = l.length := by omega
        subst hie
        rw [goN_end] at hgo
        exact FinS.mk ⟨_, fin3N rfl rfl rfl, rfl, rfl, by rw [← hgo]; rfl, rfl⟩
theorem cnF_all {P : List Int → Bool} {l : List Int} : ∀ (f fr : Nat) (now : List Int), fr + f = l.length → P (now ++ l.drop fr) = true → cnF P l f fr now = true
  | 0, fr, now, h, hp => by
    rw [List.drop_of_length_le (by omega), List.append_nil] at hp
    exact hp
  | f + 1, fr, now, h, hp => by
    have hlt : fr < l.length := by omega
    rw [cnF, List.any_eq_true]
    refine ⟨fr, by simp [List.mem_range']; omega, cnF_all f (fr + 1) _ (by omega) ?_⟩
    rw [List.drop_eq_getElem_cons hlt] at hp
    rw [List.append_assoc]
    simpa [hlt] using hp
theorem byF_eq (g : Rg) (l : List Int) (i : Nat) : byF g l i = l.any fun k => decide ((g.r.orders.getD k.toNat ⟨0, 0, 0, 0⟩).f ≤ (i : Int)) && decide ((i : Int) < (g.r.orders.getD k.toNat ⟨0, 0, 0, 0⟩).t) := by
  have key : ∀ (l : List Int) (p : Nat → Bool), l.foldl (fun p k => hideF p (g.r.orders.getD k.toNat ⟨0, 0, 0, 0⟩)) p i = (p i || l.any fun k => decide ((g.r.orders.getD k.toNat ⟨0, 0, 0, 0⟩).f ≤ (i : Int)) && decide ((i : Int) < (g.r.orders.getD k.toNat ⟨0, 0, 0, 0⟩).t)) := fun l => by
    induction l with
    | nil => intro p; simp
    | cons k r ih => intro p; rw [List.foldl_cons, ih, List.any_cons]; simp only [hideF, Bool.or_assoc]
  rw [byF, key]; rfl
theorem holK_iff (g : Rg) : ∀ (i : Nat) (k : Int), k ∈ holK g i ↔ ∃ j : Nat, j < i ∧ k = j ∧ holdsF (g.r.orders.getD j ⟨0, 0, 0, 0⟩) g.x = true
  | 0, k => by simp [holK]
  | i + 1, k => by
    have ih := holK_iff g i k
    simp only [holK]
    split
    · rename_i h
      rw [List.mem_append, ih, List.mem_singleton]
      constructor
      · rintro (⟨j, h1, h2, h3⟩ | rfl)
        · exact ⟨j, by omega, h2, h3⟩
        · exact ⟨i, by omega, rfl, h⟩
      · rintro ⟨j, h1, h2, h3⟩
        by_cases he : j = i
        · exact .inr (by rw [h2, he])
        · exact .inl ⟨j, by omega, h2, h3⟩
    · rename_i h
      rw [ih]
      constructor
      · rintro ⟨j, h1, h2, h3⟩; exact ⟨j, by omega, h2, h3⟩
      · rintro ⟨j, h1, h2, h3⟩
        refine ⟨j, ?_, h2, h3⟩
        by_cases he : j = i
        · subst he; exact absurd h3 h
        · omega
theorem by_hol (r : Rp) (x : Rx) (i : Nat) : byF (rgOf r x) (holF (rgOf r x)) i = hidF r x i := by
  rw [byF_eq, Bool.eq_iff_iff, hidF]
  simp only [List.any_eq_true, hidO, inF, Bool.and_eq_true, decide_eq_true_eq]
  constructor
  · rintro ⟨k, hk, h1, h2⟩
    obtain ⟨j, hj, rfl, hh⟩ := (holK_iff (rgOf r x) _ k).1 hk
    have hj : j < r.orders.length := hj
    have e : (rgOf r x).r.orders.getD j ⟨0, 0, 0, 0⟩ = r.orders[j] := by simp [rgOf, hj]
    rw [Int.toNat_natCast, e] at h1 h2
    rw [e] at hh
    exact ⟨_, List.getElem_mem hj, hh, h1, by omega⟩
  · rintro ⟨o, ho, hh, h1, h2⟩
    obtain ⟨j, hj, rfl⟩ := List.getElem_of_mem ho
    have e : (rgOf r x).r.orders.getD j ⟨0, 0, 0, 0⟩ = r.orders[j] := by simp [rgOf, hj]
    refine ⟨(j : Int), (holK_iff (rgOf r x) _ _).2 ⟨j, hj, rfl, by rw [e]; exact hh⟩, ?_⟩
    rw [Int.toNat_natCast, e]
    exact ⟨h1, by omega⟩
theorem sameV_hol (r : Rp) (x : Rx) : sameV (rgOf r x) (holF (rgOf r x)) = true := by
  rw [sameV, List.all_eq_true]
  intro i _
  rw [by_hol]
  exact beq_self_eq_true _
/-- So many are the fewest. -/
def IsFew (g : Rg) (n : Nat) : Prop := cnF (sameV g) (holF g) n 0 [] = true ∧ ∀ m, m < n → cnF (sameV g) (holF g) m 0 [] = false
def fewQ (p : Rp × Rx) (v : Value) : Prop := (faultX p.1 p.2 ≠ 0 ∧ v = .tuple #[I 0, I (faultX p.1 p.2)]) ∨ (faultX p.1 p.2 = 0 ∧ ∃ n : Nat, v = .tuple #[I n, I 0] ∧ IsFew (rgOf p.1 p.2) n)
theorem fewest37 : Sound Try.prog 37 id (grel (args2 rpRd rxRd fun _ _ => True) fun p v _ => fewQ p v) := by
  refine comp37.grel (Tab.cons 44 _ read44 body44 (Tab.cons 61 _ holding61 body61 (Tab.nil _))) (ok2 _ _ _) (fun args G s h => ?_) (fun x v G G' hg h => h) (fun args G p h => ?_)
  · obtain ⟨v, w, rfl, _⟩ := h; simp
  · obtain ⟨r, x⟩ := p
    obtain ⟨u, v, rfl, hr, hx, _⟩ := h
    dsimp only at hr hx
    obtain ⟨rw_, ro, rfl, hrc⟩ := id hr
    obtain ⟨m, rfl, hm⟩ := id hx
    obtain ⟨oa, on, oc, rfl, ho1, ho2⟩ := id hrc.o
    obtain ⟨wa, wn, wc, rfl, hw1, hw2⟩ := id hrc.w
    obtain ⟨ma, mn, mc, rfl, hm1, hm2⟩ := id hm
    (conv => whnf)
    refine RelP.g (ok2 rpRd rxRd fun _ _ => True) (x := (r, x)) ⟨_, _, rfl, hr, hx, trivial⟩ (Grow.refl _) (fun v G1 hg1 hq => W.mk ?_)
    obtain ⟨gwa, gwn, gwc, goa, gon, goc, gma, gmn, gmc, gc, gy, gp, rfl, hq⟩ := hq
    dsimp only at hq
    dsimp only
    (conv => whnf)
    refine IteP.mk (fun h1 => W.mk ?_) (fun h1 => W.mk ?_) <;> (conv => whnf)
    rotate_left
    · have h1 : ¬ faultX r x = 0 := h1
      exact FinP.mk (.inl ⟨h1, rfl⟩)
    have h1 : faultX r x = 0 := h1
    obtain ⟨rfl, rfl, rfl, hgc⟩ := hq h1
    have hfine := rgFine h1
    have hfn := (faultX_fine h1).1
    have hol : (rgOf r x).r.orders.length ≤ 12 := hfn.ol
    have hll := holK_len (rgOf r x) (rgOf r x).r.orders.length
    have hmem := holK_mem (rgOf r x) (rgOf r x).r.orders.length
    have hord : ∀ o ∈ (rgOf r x).r.orders, 0 ≤ o.f ∧ o.f ≤ o.t ∧ o.t ≤ 60 := fun o ho => by
      have := hfn.o o ho
      have := hfn.wl
      omega
    refine RelP.g (ok1 rgRd fun g => g.r.orders.length ≤ 1000) (x := rgOf r x) ⟨_, rfl, ⟨_, _, _, rfl, hgc⟩, by omega⟩ (Grow.refl _) (fun v G2 hg2 hq2 => W.mk ?_)
    obtain ⟨la, ln, lc, rfl, hl1, hl2⟩ := id hq2
    (conv => whnf)
    refine NameP.mk (fun b1 => W.mk ?_)
    (conv => whnf)
    refine NameP.mk (fun b2 => W.mk ?_)
    (conv => whnf)
    refine NameP.mk (fun b3 => W.mk ?_)
    (conv => whnf)
    refine LoopP.of { α := Nat, fr := fun n => [(9, .c (.ptr 22 0)), (10, .v (I n))], H := fun _ => [(10, .cells (.named b1) ((rgl (.slice gwa gwn gwc) (.slice goa gon goc) (.slice gma gmn gmc) r.cols x.year (rgOf r x).p).map .val) 97), (20, .cells (.named b2) [.val (.slice la ln lc)] 26), (22, .cells (.named b3) [.val (cnV ⟨b1, b2, b3, gwa, gwn, gwc, goa, gon, goc, gma, gmn, gmc, la, ln, lc⟩)] 121)], ok := fun n _ => n ≤ (holF (rgOf r x)).length ∧ ∀ m, m < n → cnF (sameV (rgOf r x)) (holF (rgOf r x)) m 0 [] = false, m := fun n => (holF (rgOf r x)).length - n }
      0 (HeadP.of [] ⟨rfl, rfl, trivial⟩ ⟨rfl, rfl, rfl, trivial⟩) ⟨Nat.zero_le _, fun m hm => by omega⟩ (fun _ => ⟨rfl, rfl⟩) (fun (n : Nat) G3 hg3 hx => W.mk ?_)
    obtain ⟨hn, hno⟩ := hx
    have hhl : (holF (rgOf r x)).length ≤ 12 := Nat.le_trans hll hol
    have hctx : CtxN ⟨b1, b2, b3, gwa, gwn, gwc, goa, gon, goc, gma, gmn, gmc, la, ln, lc⟩ (rgOf r x) (holF (rgOf r x)) G3 := ⟨(hgc.grow hg2).grow hg3, hq2.grow hg3⟩
    dsimp only
    (conv => whnf)
    refine CallvP.fn _ (SoundFn.of body65 (can65n (B := ⟨b1, b2, b3, gwa, gwn, gwc, goa, gon, goc, gma, gmn, gmc, la, ln, lc⟩) (g := rgOf r x) (l := holF (rgOf r x)) hmem hord n)) (W.mk ?_)
    (conv => whnf)
    refine StP.mk ⟨[(10, ⟨b1, false, .cells (rgl (.slice gwa gwn gwc) (.slice goa gon goc) (.slice gma gmn gmc) r.cols x.year (rgOf r x).p) 97⟩), (20, ⟨b2, false, .cells [.slice la ln lc] 26⟩), (22, ⟨b3, false, .cells [cnV ⟨b1, b2, b3, gwa, gwn, gwc, goa, gon, goc, gma, gmn, gmc, la, ln, lc⟩] 121⟩)],
      ⟨⟨_, rfl, toValsH_map _ _⟩, ⟨_, rfl, rfl⟩, ⟨_, rfl, rfl⟩, trivial⟩, (by show ([10, 20, 22] : List Nat).Nodup; decide), ⟨rfl, rfl, by omega, hctx⟩, fun v ns G4 hg4 hpost => W.mk ?_⟩
    obtain ⟨_, _, rfl, rfl⟩ := hpost
    (conv => whnf)
    refine ForkP.mk (fun hm => W.mk ?_) (fun hm => W.mk ?_) <;> (conv => whnf)
    · exact FinP.mk (.inr ⟨h1, n, rfl, hm, hno⟩)
    · have hlt : n < (holF (rgOf r x)).length := by
        rcases Nat.lt_or_ge n (holF (rgOf r x)).length with h | h
        · exact h
        · have he : n = (holF (rgOf r x)).length := Nat.le_antisymm hn h
          have := cnF_all (P := sameV (rgOf r x)) (l := holF (rgOf r x)) n 0 [] (by omega) (by simpa using sameV_hol r x)
          rw [hm] at this; cases this
      (refine OblP.mk ?_ (W.mk ?_); (first | trivial | omega | (simp only [inR]; omega) | exact Nat.le_of_ble_eq_true (by rfl) | exact SlR.some (by assumption) (by omega)); (conv => whnf))
      refine RoundP.of (n + 1) (HeadP.of [] ⟨rfl, rfl, trivial⟩ ⟨rfl, rfl, rfl, trivial⟩) ⟨hlt, fun m hm2 => ?_⟩ (by simp only; omega)
      rcases Nat.lt_succ_iff_lt_or_eq.1 hm2 with h | rfl
      · exact hno m h
      · exact hm
end Go.Proofs.Ytpcpjmplgladmaa

namespace Go.Proofs.Ytpcpjmplgladmaa
open Go.Pal
set_option maxRecDepth 100000
def unitRd : GRel Unit := fun args _ _ => args = []
theorem okU : GOk unitRd := ⟨fun _ _ _ _ _ _ => rfl, fun _ _ _ _ _ h => h⟩
theorem SlR.conv {α β : Type} {k : Nat} {R : Hp → List Value → α → Prop} {R' : Hp → List Value → β → Prop} {G : Hp} {a : Option Addr} {n c : Nat} {l : List α} {l' : List β} (h : SlR k R G a n c l) (hl : l'.length = l.length) (hc : ∀ i (h1 : i < l.length) (h2 : i < l'.length) cs, R G cs l[i] → R' G cs l'[i]) : SlR k R' G a n c l' := by
  refine ⟨by rw [hl]; exact h.len, h.cap, h.some, fun i hi => ?_⟩
  obtain ⟨cs, k1, k2, k3⟩ := h.at_ i (by omega)
  exact ⟨cs, k1, k2, hc i (by omega) hi cs k3⟩
/-- list: a copy. -/
theorem list27 : Sound Try.prog 27 id (grel (args1 (slRd intE) fun l => l.length ≤ 1000) fun l v G => SlV intE G v l) := by
  refine comp27.grel (Tab.nil _) (ok1 _ _) (fun args G s h => ?_) (fun x v G G' hg h => h.grow hg) (fun args G l h => ?_)
  · obtain ⟨v, rfl, _⟩ := h; simp
  · obtain ⟨v, rfl, ⟨a, n, c, rfl, hl, hn⟩, hb⟩ := h
    obtain ⟨h1, h2, h3⟩ := hl.all
    have hlen := hl.len
    (conv => whnf)
    refine OblP.mk (fun h => hl.some h) (W.mk ?_); (conv => whnf)
    refine RdP.at h1 h2 (W.mk ?_); (conv => whnf)
    refine OblP.mk h3 (W.mk ?_); (conv => whnf)
    refine OblP.mk rfl (W.mk ?_); (conv => whnf)
    refine OblP.mk (by omega) (W.mk ?_); (conv => whnf)
    refine PubP.mk (fun a1 c1 G1 hg1 hp => W.mk ?_)
    (conv => whnf)
    refine FinP.mk ?_
    simp only [Nat.zero_add, List.nil_append] at hp ⊢
    exact (Row.of_all l hlen).pub hp (by omega)
/-- in: a reader of a year. -/
def inV (args : List Value) : Value := match args with
  | [y, m] => .agg #[y, m]
  | _ => undef
theorem in43 : Sound Try.prog 43 id (.fn (fun args _ => ∃ y a n c, args = [I y, .slice a n c]) inV) := by
  refine comp43.fn (Tab.nil _) (fun args G h => ?_) (fun args G h => ?_)
  · obtain ⟨y, a, n, c, rfl⟩ := h; simp
  · obtain ⟨y, a, n, c, rfl⟩ := h
    (conv => whnf)
    exact FinP.mk rfl
/-- The example's report. -/
def tx (l : List UInt8) : ByteArray := ⟨l.toArray⟩
def bernR : Rp := ⟨[⟨tx [119, 101], []⟩, ⟨tx [109, 101, 116], []⟩, ⟨tx [116, 104, 101], []⟩, ⟨tx [101, 110, 118, 111, 121], [3, 5]⟩, ⟨tx [105, 110], []⟩, ⟨tx [66, 101, 114, 110], [5]⟩, ⟨tx [116, 111, 100, 97, 121], [8]⟩],
  [⟨3, 4, 1, 1990⟩, ⟨4, 6, 2, 1980⟩, ⟨5, 6, 1, 1975⟩], 3⟩
set_option maxHeartbeats 4000000 in
theorem bern42 : Sound Try.prog 42 id (grel unitRd fun _ v G => RpV G v bernR) := by
  refine comp42.grel (Tab.nil _) okU (fun args G s h => by rw [h]; exact Nat.zero_le _) (fun x v G G' hg h => rpRd.grow hg h) (fun args G s h => ?_)
  subst h
  (conv => whnf)
  refine PubP.mk (fun a1 c1 G1 hg1 h1 => W.mk ?_)
  (conv => whnf)
  refine PubP.mk (fun a2 c2 G2 hg2 h2 => W.mk ?_)
  (conv => whnf)
  refine PubP.mk (fun a3 c3 G3 hg3 h3 => W.mk ?_)
  (conv => whnf)
  refine PubP.mk (fun a4 c4 G4 hg4 h4 => W.mk ?_)
  (conv => whnf)
  refine PubP.mk (fun a5 c5 G5 hg5 h5 => W.mk ?_)
  (conv => whnf)
  have k1 : SlV intE G5 (.slice a1 2 c1) [3, 5] := ((((h1.slV (e := intE) rfl rfl (by decide) : SlV intE G1 (.slice a1 2 c1) [3, 5]).grow hg2).grow hg3).grow hg4).grow hg5
  have k2 : SlV intE G5 (.slice a2 1 c2) [5] := (((h2.slV (e := intE) rfl rfl (by decide) : SlV intE G2 (.slice a2 1 c2) [5]).grow hg3).grow hg4).grow hg5
  have k3 : SlV intE G5 (.slice a3 1 c3) [8] := ((h3.slV (e := intE) rfl rfl (by decide) : SlV intE G3 (.slice a3 1 c3) [8]).grow hg4).grow hg5
  have k4 : SlR 2 wdhE.R G4 a4 7 c4 [(tx [119, 101], none, 0, 0), (tx [109, 101, 116], none, 0, 0), (tx [116, 104, 101], none, 0, 0), (tx [101, 110, 118, 111, 121], a1, 2, c1), (tx [105, 110], none, 0, 0), (tx [66, 101, 114, 110], a2, 1, c2), (tx [116, 111, 100, 97, 121], a3, 1, c3)] := h4.sl (e := wdhE) rfl rfl
  have k4 := SlR.grow (G := G4) (G' := G5) (fun _ _ h => h) k4 hg5
  have k5 : SlV odE G5 (.slice a5 3 c5) bernR.orders := h5.slV (e := odE) rfl rfl (by decide)
  refine FinP.mk ⟨_, _, rfl, ⟨_, _, _, rfl, SlR.conv k4 rfl fun i j1 j2 cs hcs => ?_, by decide⟩, k5⟩
  have hcs : cs = wdhE.f _ := hcs
  subst hcs
  match i, j1, j2 with
  | 0, _, _ => exact ⟨_, rfl, SlV.nil⟩
  | 1, _, _ => exact ⟨_, rfl, SlV.nil⟩
  | 2, _, _ => exact ⟨_, rfl, SlV.nil⟩
  | 3, _, _ => exact ⟨_, rfl, k1⟩
  | 4, _, _ => exact ⟨_, rfl, SlV.nil⟩
  | 5, _, _ => exact ⟨_, rfl, k2⟩
  | 6, _, _ => exact ⟨_, rfl, k3⟩
/-- The same numbers. -/
theorem ints38 : Sound Try.prog 38 id (gsca (args2 (slRd intE) (slRd intE) fun _ _ => True) fun p v => v = .bool (decide (p.1 = p.2))) := by
  refine comp38.gsca (Tab.nil _) (fun args G s h => ?_) (fun args G p h => ?_)
  · obtain ⟨v, w, rfl, _⟩ := h; simp
  · obtain ⟨l, l'⟩ := p
    obtain ⟨u, v, rfl, ⟨a, n, c, rfl, hl, hn⟩, ⟨a', n', c', rfl, hl', hn'⟩, _⟩ := h
    dsimp only at hl hl'
    have hlen := hl.len
    have hlen' := hl'.len
    dsimp only
    (conv => whnf)
    refine IteP.mk (fun h1 => W.mk ?_) (fun h1 => W.mk ?_) <;> (conv => whnf)
    rotate_left
    · refine FinP.mk ?_
      rw [decide_eq_false (fun e => h1 (by rw [← hlen, ← hlen', e]))]; rfl
    have h1 : n = n' := by omega
    refine LoopP.of { α := Nat, fr := fun i => [(0, .v (.slice a n c)), (1, .v (.slice a' n' c')), (5, .v (I i))], H := fun _ => [], ok := fun i _ => i ≤ l.length ∧ l.take i = l'.take i, m := fun i => l.length - i }
      0 (HeadP.of [] ⟨rfl, rfl, rfl, trivial⟩ trivial) ⟨Nat.zero_le _, rfl⟩ (fun _ => ⟨rfl, rfl⟩) (fun (i : Nat) G1 hg1 hx => W.mk ?_)
    obtain ⟨hi, hx⟩ := hx
    dsimp only
    (conv => whnf)
    refine IteP.mk (fun hlt => W.mk ?_) (fun hge => W.mk ?_) <;> (conv => whnf)
    · have hlt : i < l.length := by omega
      have hlt' : i < l'.length := by omega
      have hc := (SlR.grow (G := G) (G' := G1) (fun _ _ h => h) hl hg1).el hlt
      have hc' := (SlR.grow (G := G) (G' := G1) (fun _ _ h => h) hl' hg1).el hlt'
      have htk := take_snoc (List.getElem?_eq_getElem hlt)
      have htk' := take_snoc (List.getElem?_eq_getElem hlt')
      have hne : l[i] ≠ l'[i] → l ≠ l' := fun h e => h (by subst e; rfl)
      generalize l[i] = q at hc htk hne
      generalize l'[i] = q' at hc' htk' hne
      repeat' (first | (refine OblP.mk ?_ (W.mk ?_); (first | trivial | omega | (simp only [inR]; omega) | exact Nat.le_of_ble_eq_true (by rfl) | exact SlR.some (by assumption) (by omega)); (conv => whnf)) | (first | (refine RdP.at (by assumption) (by rfl) (W.mk ?_); (conv => whnf)) | (refine RdP.sub (by assumption) (by rfl) (W.mk ?_); (conv => whnf)) | (refine RdP.sub2 (by assumption) (by rfl) (W.mk ?_); (conv => whnf)) | (refine RdP.sub3 (by assumption) (by rfl) (W.mk ?_); (conv => whnf))))
      refine IteP.mk (fun hq => W.mk ?_) (fun hq => W.mk ?_) <;> (conv => whnf)
      · have hq : q = q' := hq
        (refine OblP.mk ?_ (W.mk ?_); (first | trivial | omega | (simp only [inR]; omega) | exact Nat.le_of_ble_eq_true (by rfl) | exact SlR.some (by assumption) (by omega)); (conv => whnf))
        exact RoundP.of (i + 1) (HeadP.of [] ⟨rfl, rfl, rfl, trivial⟩ trivial) ⟨hlt, by rw [htk, htk', hx, hq]⟩ (by simp only; omega)
      · refine FinP.mk ?_
        rw [decide_eq_false (hne hq)]; rfl
    · have : i = l.length := by omega
      subst this
      rw [List.take_length, List.take_of_length_le (by omega)] at hx
      refine FinP.mk ?_
      rw [decide_eq_true hx]; rfl
theorem ne79 (a c : ByteArray) (b d : Int) : ∀ w, ((POp.bin .neq 79).sem [.agg #[.string a, I b], .agg #[.string c, I d]]).run Try.prog w = .ok (.bool (!decide (a = c ∧ b = d))) w :=
  pur_neSI (s := 9) (e := 3) (by kernel_rfl) (by kernel_rfl) (by kernel_rfl) und9 und3 (by kernel_rfl) (by kernel_rfl) (by kernel_rfl) (by kernel_rfl) a c b d
theorem eq55 (a b c a' b' c' : Int) : ∀ w, ((POp.bin .eql 55).sem [.agg #[I a, I b, I c], .agg #[I a', I b', I c']]).run Try.prog w = .ok (.bool (decide (a = a' ∧ b = b' ∧ c = c'))) w :=
  pur_eq3 (e := 3) (by kernel_rfl) (by kernel_rfl) (by kernel_rfl) und3 (by kernel_rfl) (by kernel_rfl) (by kernel_rfl) a b c a' b' c'
instance : DecidableEq Pc := fun a b => decidable_of_iff (a.text = b.text ∧ a.col = b.col) ⟨fun h => by cases a; cases b; cases h.1; cases h.2; rfl, fun h => by rw [h]; exact ⟨rfl, rfl⟩⟩
theorem pieces29 : Sound Try.prog 29 id (gsca (args2 (slRd pcE) (slRd pcE) fun _ _ => True) fun p v => v = .bool (decide (p.1 = p.2))) := by
  refine comp29.gsca (Tab.nil _) (fun args G s h => ?_) (fun args G p h => ?_)
  · obtain ⟨v, w, rfl, _⟩ := h; simp
  · obtain ⟨l, l'⟩ := p
    obtain ⟨u, v, rfl, ⟨a, n, c, rfl, hl, hn⟩, ⟨a', n', c', rfl, hl', hn'⟩, _⟩ := h
    dsimp only at hl hl'
    have hlen := hl.len
    have hlen' := hl'.len
    dsimp only
    (conv => whnf)
    refine IteP.mk (fun h1 => W.mk ?_) (fun h1 => W.mk ?_) <;> (conv => whnf)
    rotate_left
    · refine FinP.mk ?_
      rw [decide_eq_false (fun e => h1 (by rw [← hlen, ← hlen', e]))]; rfl
    have h1 : n = n' := by omega
    refine LoopP.of { α := Nat, fr := fun i => [(0, .v (.slice a n c)), (1, .v (.slice a' n' c')), (5, .v (I i))], H := fun _ => [], ok := fun i _ => i ≤ l.length ∧ l.take i = l'.take i, m := fun i => l.length - i }
      0 (HeadP.of [] ⟨rfl, rfl, rfl, trivial⟩ trivial) ⟨Nat.zero_le _, rfl⟩ (fun _ => ⟨rfl, rfl⟩) (fun (i : Nat) G1 hg1 hx => W.mk ?_)
    obtain ⟨hi, hx⟩ := hx
    dsimp only
    (conv => whnf)
    refine IteP.mk (fun hlt => W.mk ?_) (fun hge => W.mk ?_) <;> (conv => whnf)
    · have hlt : i < l.length := by omega
      have hlt' : i < l'.length := by omega
      have hc := (SlR.grow (G := G) (G' := G1) (fun _ _ h => h) hl hg1).el hlt
      have hc' := (SlR.grow (G := G) (G' := G1) (fun _ _ h => h) hl' hg1).el hlt'
      have htk := take_snoc (List.getElem?_eq_getElem hlt)
      have htk' := take_snoc (List.getElem?_eq_getElem hlt')
      have hne : l[i] ≠ l'[i] → l ≠ l' := fun h e => h (by subst e; rfl)
      generalize l[i] = q at hc htk hne
      generalize l'[i] = q' at hc' htk' hne
      obtain ⟨t1, k1⟩ := q
      obtain ⟨t2, k2⟩ := q'
      repeat' (first | (refine OblP.mk ?_ (W.mk ?_); (first | trivial | omega | (simp only [inR]; omega) | exact Nat.le_of_ble_eq_true (by rfl) | exact SlR.some (by assumption) (by omega)); (conv => whnf)) | (first | (refine RdP.at (by assumption) (by rfl) (W.mk ?_); (conv => whnf)) | (refine RdP.sub (by assumption) (by rfl) (W.mk ?_); (conv => whnf)) | (refine RdP.sub2 (by assumption) (by rfl) (W.mk ?_); (conv => whnf)) | (refine RdP.sub3 (by assumption) (by rfl) (W.mk ?_); (conv => whnf))))
      refine PurP.of _ (ne79 t1 t2 k1 k2) (W.mk ?_)
      (conv => whnf)
      refine ForkP.mk (fun hq => W.mk ?_) (fun hq => W.mk ?_) <;> (conv => whnf)
      · refine FinP.mk ?_
        have hq : ¬ (t1 = t2 ∧ k1 = k2) := fun h => by rw [decide_eq_true h] at hq; cases hq
        rw [decide_eq_false (hne fun e => hq (by cases e; exact ⟨rfl, rfl⟩))]; rfl
      · have hq : t1 = t2 ∧ k1 = k2 := by simpa using hq
        obtain ⟨rfl, rfl⟩ := hq
        (refine OblP.mk ?_ (W.mk ?_); (first | trivial | omega | (simp only [inR]; omega) | exact Nat.le_of_ble_eq_true (by rfl) | exact SlR.some (by assumption) (by omega)); (conv => whnf))
        exact RoundP.of (i + 1) (HeadP.of [] ⟨rfl, rfl, rfl, trivial⟩ trivial) ⟨hlt, by rw [htk, htk', hx]⟩ (by simp only; omega)
    · have : i = l.length := by omega
      subst this
      rw [List.take_length, List.take_of_length_le (by omega)] at hx
      refine FinP.mk ?_
      rw [decide_eq_true hx]; rfl
end Go.Proofs.Ytpcpjmplgladmaa

namespace Go.Proofs.Ytpcpjmplgladmaa
open Go.Pal
set_option maxRecDepth 100000
instance : DecidableEq En := fun a b => decidable_of_iff (a.head = b.head ∧ a.cols = b.cols) ⟨fun h => by cases a; cases b; cases h.1; cases h.2; rfl, fun h => by rw [h]; exact ⟨rfl, rfl⟩⟩
theorem EnsV.uniq {G : Hp} {v : Value} {x y : List En} (h : EnsV G v x) (h' : EnsV G v y) : x = y := by
  obtain ⟨a, n, c, rfl, h1, _⟩ := h
  obtain ⟨_, _, _, e, h2, _⟩ := h'
  cases e
  exact SlR.uniq (fun cs x y h h' => EnR.uniq h h') h1 h2
def ensRd : Rd (List En) := ⟨EnsV, fun h h' => h.uniq h', fun hg h => h.grow hg⟩
theorem entries20 : Sound Try.prog 20 id (gsca (args2 ensRd ensRd fun _ _ => True) fun p v => v = .bool (decide (p.1 = p.2))) := by
  refine comp20.gsca (Tab.cons 38 _ ints38 body38 (Tab.nil _)) (fun args G s h => ?_) (fun args G p h => ?_)
  · obtain ⟨v, w, rfl, _⟩ := h; simp
  · obtain ⟨l, l'⟩ := p
    obtain ⟨u, v, rfl, ⟨a, n, c, rfl, hl, hn⟩, ⟨a', n', c', rfl, hl', hn'⟩, _⟩ := h
    dsimp only at hl hl'
    have hlen := hl.len
    have hlen' := hl'.len
    dsimp only
    (conv => whnf)
    refine IteP.mk (fun h1 => W.mk ?_) (fun h1 => W.mk ?_) <;> (conv => whnf)
    rotate_left
    · refine FinP.mk ?_
      rw [decide_eq_false (fun e => h1 (by rw [← hlen, ← hlen', e]))]; rfl
    have h1 : n = n' := by omega
    refine LoopP.of { α := Nat, fr := fun i => [(0, .v (.slice a n c)), (1, .v (.slice a' n' c')), (5, .v (I i))], H := fun _ => [], ok := fun i _ => i ≤ l.length ∧ l.take i = l'.take i, m := fun i => l.length - i }
      0 (HeadP.of [] ⟨rfl, rfl, rfl, trivial⟩ trivial) ⟨Nat.zero_le _, rfl⟩ (fun _ => ⟨rfl, rfl⟩) (fun (i : Nat) G1 hg1 hx => W.mk ?_)
    obtain ⟨hi, hx⟩ := hx
    dsimp only
    (conv => whnf)
    refine IteP.mk (fun hlt => W.mk ?_) (fun hge => W.mk ?_) <;> (conv => whnf)
    · have hlt : i < l.length := by omega
      have hlt' : i < l'.length := by omega
      obtain ⟨cs, _, hc, hv, rfl, ha, hn1, hcc, rfl, hh⟩ := SlR.cells (SlR.grow (fun _ _ h => h.grow hg1) hl hg1) hlt
      obtain ⟨cs', _, hc', hv', rfl, ha', hn1', hcc', rfl, hh'⟩ := SlR.cells (SlR.grow (fun _ _ h => h.grow hg1) hl' hg1) hlt'
      have htk := take_snoc (List.getElem?_eq_getElem hlt)
      have htk' := take_snoc (List.getElem?_eq_getElem hlt')
      have hne : l[i] ≠ l'[i] → l ≠ l' := fun h e => h (by subst e; rfl)
      generalize l[i] = q at hc htk hne hh
      generalize l'[i] = q' at hc' htk' hne hh'
      obtain ⟨t1, k1⟩ := q
      obtain ⟨t2, k2⟩ := q'
      dsimp only at hc hc' hh hh'
      repeat' (first | (refine OblP.mk ?_ (W.mk ?_); (first | trivial | omega | (simp only [inR]; omega) | exact Nat.le_of_ble_eq_true (by rfl) | exact SlR.some (by assumption) (by omega)); (conv => whnf)) | (first | (refine RdP.at (by assumption) (by rfl) (W.mk ?_); (conv => whnf)) | (refine RdP.sub (by assumption) (by rfl) (W.mk ?_); (conv => whnf)) | (refine RdP.sub2 (by assumption) (by rfl) (W.mk ?_); (conv => whnf)) | (refine RdP.sub3 (by assumption) (by rfl) (W.mk ?_); (conv => whnf))))
      refine IteP.mk (fun hq => W.mk ?_) (fun hq => W.mk ?_) <;> (conv => whnf)
      · have hq : t1 = t2 := hq
        subst hq
        repeat' (first | (refine OblP.mk ?_ (W.mk ?_); (first | trivial | omega | (simp only [inR]; omega) | exact Nat.le_of_ble_eq_true (by rfl) | exact SlR.some (by assumption) (by omega)); (conv => whnf)) | (first | (refine RdP.at (by assumption) (by rfl) (W.mk ?_); (conv => whnf)) | (refine RdP.sub (by assumption) (by rfl) (W.mk ?_); (conv => whnf)) | (refine RdP.sub2 (by assumption) (by rfl) (W.mk ?_); (conv => whnf)) | (refine RdP.sub3 (by assumption) (by rfl) (W.mk ?_); (conv => whnf))))
        refine ScaP.g (ok2 (slRd intE) (slRd intE) fun _ _ => True) (x := (k1, k2)) ⟨_, _, rfl, ⟨_, _, _, rfl, hh⟩, ⟨_, _, _, rfl, hh'⟩, trivial⟩ (fun v hv => W.mk ?_)
        subst hv
        dsimp only
        (conv => whnf)
        refine ForkP.mk (fun hq => W.mk ?_) (fun hq => W.mk ?_) <;> (conv => whnf)
        · have hq : k1 = k2 := by simpa using hq
          subst hq
          (refine OblP.mk ?_ (W.mk ?_); (first | trivial | omega | (simp only [inR]; omega) | exact Nat.le_of_ble_eq_true (by rfl) | exact SlR.some (by assumption) (by omega)); (conv => whnf))
          exact RoundP.of (i + 1) (HeadP.of [] ⟨rfl, rfl, rfl, trivial⟩ trivial) ⟨hlt, by rw [htk, htk', hx]⟩ (by simp only; omega)
        · have hq : ¬ k1 = k2 := by simpa using hq
          refine FinP.mk ?_
          rw [decide_eq_false (hne fun e => hq (by cases e; rfl))]; rfl
      · have hq : ¬ t1 = t2 := hq
        refine FinP.mk ?_
        rw [decide_eq_false (hne fun e => hq (by cases e; rfl))]; rfl
    · have : i = l.length := by omega
      subst this
      rw [List.take_length, List.take_of_length_le (by omega)] at hx
      refine FinP.mk ?_
      rw [decide_eq_true hx]; rfl
/-! ### Closed evaluation -/
abbrev bx0 : Rx := ⟨1970, []⟩
abbrev bx1 : Rx := ⟨1970, [1]⟩
theorem bern_f0 : faultX bernR bx0 = 0 := by decide +kernel
theorem bern_f1 : faultX bernR bx1 = 0 := by decide +kernel
theorem bern_look : lookF bernR bx0 = [⟨tx [119, 101], 1⟩, ⟨tx [109, 101, 116], 1⟩, ⟨tx [116, 104, 101], 1⟩, ⟨noText, 2⟩, ⟨tx [116, 111, 100, 97, 121], 2⟩] := by decide +kernel
theorem bern_index : indexF bernR bx1 = [⟨3, [2]⟩, ⟨5, [2]⟩, ⟨8, [2]⟩] := by decide +kernel
theorem bern_closed : clF (rgOf bernR bx0) = [⟨3, 6, 1990⟩] := by decide +kernel
theorem bern_few {n : Nat} (h : IsFew (rgOf bernR bx0) n) : n = 2 := by
  have h2 : cnF (sameV (rgOf bernR bx0)) (holF (rgOf bernR bx0)) 2 0 [] = true := by decide +kernel
  have h1 : cnF (sameV (rgOf bernR bx0)) (holF (rgOf bernR bx0)) 1 0 [] = false := by decide +kernel
  have h0 : cnF (sameV (rgOf bernR bx0)) (holF (rgOf bernR bx0)) 0 0 [] = false := by decide +kernel
  obtain ⟨k1, k2⟩ := h
  by_cases e : n = 2
  · exact e
  · rcases Nat.lt_or_gt_of_ne e with h | h
    · have : n = 0 ∨ n = 1 := by omega
      rcases this with rfl | rfl
      · rw [h0] at k1; cases k1
      · rw [h1] at k1; cases k1
    · rw [k2 2 h] at h2; cases h2
end Go.Proofs.Ytpcpjmplgladmaa

namespace Go.Proofs.Ytpcpjmplgladmaa
open Go.Pal
set_option maxRecDepth 100000
set_option maxHeartbeats 4000000 in
theorem wakes14 : Sound Try.prog 14 id (gsca unitRd fun _ v => v = .bool true) := by
  refine comp14.gsca (Tab.cons 42 _ bern42 body42 (Tab.cons 43 _ in43 body43 (Tab.cons 28 _ look28 body28 (Tab.cons 15 _ index15 body15 (Tab.cons 21 _ closed21 body21 (Tab.cons 37 _ fewest37 body37 (Tab.cons 29 _ pieces29 body29 (Tab.cons 20 _ entries20 body20 (Tab.nil _))))))))) (fun args G s h => by rw [h]; exact Nat.zero_le _) (fun args G s h => ?_)
  subst h
  (conv => whnf)
  refine RelP.g okU (x := ()) rfl (Grow.refl _) (fun v G1 h1 q1 => W.mk ?_)
  have hb := q1
  obtain ⟨bw, bo, rfl, _⟩ := q1
  (conv => whnf)
  refine OblP.mk ⟨1970, none, 0, 0, rfl⟩ (W.mk ?_)
  (conv => whnf)
  refine RelP.g (ok2 rpRd rxRd fun _ _ => True) (x := (bernR, bx0)) ⟨_, _, rfl, hb, ⟨_, rfl, SlV.nil⟩, trivial⟩ (Grow.refl _) (fun v G2 h2 q2 => W.mk ?_)
  obtain ⟨wl, rfl, hL⟩ := q2
  dsimp only at hL ⊢
  rw [if_pos bern_f0, bern_look] at hL
  rw [bern_f0]
  obtain ⟨la, ln, lc, rfl, _, _⟩ := id hL
  clear hb
  (conv => whnf)
  refine RelP.g okU (x := ()) rfl (Grow.refl _) (fun v G3 h3 q3 => W.mk ?_)
  have hb := q3
  obtain ⟨bw, bo, rfl, _⟩ := q3
  (conv => whnf)
  refine PubP.mk (fun a1 c1 G4 h4 p4 => W.mk ?_)
  (conv => whnf)
  refine OblP.mk ⟨1970, _, _, _, rfl⟩ (W.mk ?_)
  (conv => whnf)
  refine RelP.g (ok2 rpRd rxRd fun _ _ => True) (x := (bernR, bx1)) ⟨_, _, rfl, rpRd.grow h4 hb, ⟨_, rfl, p4.slV (e := intE) rfl rfl (by decide)⟩, trivial⟩ (Grow.refl _) (fun v G5 h5 q5 => W.mk ?_)
  obtain ⟨wi, rfl, hI⟩ := q5
  dsimp only at hI ⊢
  rw [if_pos bern_f1, bern_index] at hI
  rw [bern_f1]
  obtain ⟨ia, in_, ic, rfl, _, _⟩ := id hI
  clear hb
  (conv => whnf)
  refine RelP.g okU (x := ()) rfl (Grow.refl _) (fun v G6 h6 q6 => W.mk ?_)
  have hb := q6
  obtain ⟨bw, bo, rfl, _⟩ := q6
  (conv => whnf)
  refine OblP.mk ⟨1970, none, 0, 0, rfl⟩ (W.mk ?_)
  (conv => whnf)
  refine RelP.g (ok2 rpRd rxRd fun _ _ => True) (x := (bernR, bx0)) ⟨_, _, rfl, hb, ⟨_, rfl, SlV.nil⟩, trivial⟩ (Grow.refl _) (fun v G7 h7 q7 => W.mk ?_)
  obtain ⟨ws, rfl, hS⟩ := q7
  dsimp only at hS ⊢
  rw [if_pos bern_f0, bern_closed] at hS
  rw [bern_f0]
  obtain ⟨sa, sn, sc, rfl, hs1, _⟩ := id hS
  have hsn := hs1.len
  have hsn : 1 = sn := hsn
  subst hsn
  clear hb
  (conv => whnf)
  refine RelP.g okU (x := ()) rfl (Grow.refl _) (fun v G8 h8 q8 => W.mk ?_)
  have hb := q8
  obtain ⟨bw, bo, rfl, _⟩ := q8
  (conv => whnf)
  refine OblP.mk ⟨1970, none, 0, 0, rfl⟩ (W.mk ?_)
  (conv => whnf)
  refine RelP.g (ok2 rpRd rxRd fun _ _ => True) (x := (bernR, bx0)) ⟨_, _, rfl, hb, ⟨_, rfl, SlV.nil⟩, trivial⟩ (Grow.refl _) (fun v G9 h9 q9 => W.mk ?_)
  rcases q9 with ⟨e, _⟩ | ⟨_, n, rfl, hfew⟩
  · exact absurd bern_f0 e
  have := bern_few hfew
  subst this
  clear hb
  (conv => whnf)
  refine IteP.mk (fun _ => W.mk ?_) (fun h => absurd rfl h)
  (conv => whnf)
  refine IteP.mk (fun _ => W.mk ?_) (fun h => absurd rfl h)
  (conv => whnf)
  refine IteP.mk (fun _ => W.mk ?_) (fun h => absurd rfl h)
  (conv => whnf)
  refine IteP.mk (fun _ => W.mk ?_) (fun h => absurd rfl h)
  (conv => whnf)
  refine PubP.mk (fun a2 c2 Ga ha pa => W.mk ?_)
  (conv => whnf)
  refine ScaP.g (ok2 (slRd pcE) (slRd pcE) fun _ _ => True) (x := ([⟨tx [119, 101], 1⟩, ⟨tx [109, 101, 116], 1⟩, ⟨tx [116, 104, 101], 1⟩, ⟨noText, 2⟩, ⟨tx [116, 111, 100, 97, 121], 2⟩], [⟨tx [119, 101], 1⟩, ⟨tx [109, 101, 116], 1⟩, ⟨tx [116, 104, 101], 1⟩, ⟨noText, 2⟩, ⟨tx [116, 111, 100, 97, 121], 2⟩]))
    ⟨_, _, rfl, (((((((hL.grow h3).grow h4).grow h5).grow h6).grow h7).grow h8).grow h9).grow ha, pa.slV (e := pcE) rfl rfl (by decide), trivial⟩ (fun v hv => W.mk ?_)
  subst hv
  dsimp only
  (conv => whnf)
  refine ForkP.mk (fun _ => W.mk ?_) (fun h => by simp at h)
  (conv => whnf)
  refine PubP.mk (fun a3 c3 Gb hb pb => W.mk ?_)
  (conv => whnf)
  refine PubP.mk (fun a4 c4 Gc hc pc => W.mk ?_)
  (conv => whnf)
  refine PubP.mk (fun a5 c5 Gd hd pd => W.mk ?_)
  (conv => whnf)
  refine PubP.mk (fun a6 c6 Ge he pe => W.mk ?_)
  (conv => whnf)
  have k1 : SlV intE Ge (.slice a3 1 c3) [2] := (((pb.slV (e := intE) rfl rfl (by decide) : SlV intE Gb (.slice a3 1 c3) [2]).grow hc).grow hd).grow he
  have k2 : SlV intE Ge (.slice a4 1 c4) [2] := ((pc.slV (e := intE) rfl rfl (by decide) : SlV intE Gc (.slice a4 1 c4) [2]).grow hd).grow he
  have k3 : SlV intE Ge (.slice a5 1 c5) [2] := (pd.slV (e := intE) rfl rfl (by decide) : SlV intE Gd (.slice a5 1 c5) [2]).grow he
  have k4 : SlR 2 enE.R Ge a6 3 c6 [(3, a3, 1, c3), (5, a4, 1, c4), (8, a5, 1, c5)] := pe.sl (e := enE) rfl rfl
  have k5 : EnsV Ge (.slice a6 3 c6) [⟨3, [2]⟩, ⟨5, [2]⟩, ⟨8, [2]⟩] := by
    refine ⟨_, _, _, rfl, SlR.mapEn k4 rfl fun i j1 j2 => ?_, by decide⟩
    match i, j1, j2 with
    | 0, _, _ => exact ⟨_, rfl, k1⟩
    | 1, _, _ => exact ⟨_, rfl, k2⟩
    | 2, _, _ => exact ⟨_, rfl, k3⟩
  refine ScaP.g (ok2 ensRd ensRd fun _ _ => True) (x := ([⟨3, [2]⟩, ⟨5, [2]⟩, ⟨8, [2]⟩], [⟨3, [2]⟩, ⟨5, [2]⟩, ⟨8, [2]⟩]))
    ⟨_, _, rfl, ((((((((hI.grow h6).grow h7).grow h8).grow h9).grow ha).grow hb).grow hc).grow hd).grow he, k5, trivial⟩ (fun v hv => W.mk ?_)
  subst hv
  dsimp only
  (conv => whnf)
  refine ForkP.mk (fun _ => W.mk ?_) (fun h => by simp at h)
  (conv => whnf)
  refine IteP.mk (fun _ => W.mk ?_) (fun h => absurd rfl h)
  (conv => whnf)
  have hS2 : SlR shE.k shE.R Ge sa 1 sc [⟨3, 6, 1990⟩] := SlR.grow (G := G7) (G' := Ge) (fun _ _ h => h) hs1 ((((((h8.trans h9).trans ha).trans hb).trans hc).trans hd).trans he)
  have hel := hS2.el (i := 0) (by decide)
  have hel : CellsAt Ge (ab sa) (ao sa + (0 : Int).toNat * 3) [I 3, I 6, I 1990] := hel
  repeat' (first | (refine OblP.mk ?_ (W.mk ?_); (first | trivial | omega | (simp only [inR]; omega) | exact Nat.le_of_ble_eq_true (by rfl) | exact SlR.some (by assumption) (by omega)); (conv => whnf)) | (first | (refine RdP.at (by assumption) (by rfl) (W.mk ?_); (conv => whnf)) | (refine RdP.sub (by assumption) (by rfl) (W.mk ?_); (conv => whnf)) | (refine RdP.sub2 (by assumption) (by rfl) (W.mk ?_); (conv => whnf)) | (refine RdP.sub3 (by assumption) (by rfl) (W.mk ?_); (conv => whnf))))
  refine PurP.of _ (eq55 3 6 1990 3 6 1990) (W.mk ?_)
  (conv => whnf)
  refine ForkP.mk (fun _ => W.mk ?_) (fun h => by simp at h)
  (conv => whnf)
  refine IteP.mk (fun _ => W.mk ?_) (fun h => absurd rfl h)
  (conv => whnf)
  exact FinP.mk rfl
end Go.Proofs.Ytpcpjmplgladmaa
