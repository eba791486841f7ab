/- Each operation, on symbolic values: the plain ones. -/
import Derived.Test.YtcmhpndhloplpaaPalD
namespace Go.Pal
open Go.RowKit

structure Ctx (w0 : Root) (G0 Gr G : Hp) (M : Nat → Prop) (E : Nat → Value) (H Hv : Nat → Option OB) (hid : Nat) (fr : Nat → SV) (a : Act) (W : World) : Prop where
  rfr : ∀ i, (fr i).rel E (a.tmps.getD i undef)
  mfr : ∀ i, (fr i).ment M
  sim : Sim w0 G0 E H G W
  mH : ∀ h ob, H h = some ob → M h ∧ ob.ment M
  fresh : ¬ M hid
  view : ∀ h ob, Hv h = some ob → H h = some ob
  gr : Grow Gr G

section
variable {P : Program} {o : Oper} {a : Act} {W : World} {rd : Option Nat} {nn : Nat} {Q : Exit → Act → World → Prop}
variable {w0 : Root} {G0 Gr G : Hp} {M : Nat → Prop} {E : Nat → Value} {H Hv : Nat → Option OB} {hid : Nat} {K : SV → List (Nat × Option OB) → Hp → Prop} {fr : Nat → SV} {tab : FuncId → Option PSpec}

def Goal (P : Program) (o : Oper) (a : Act) (W : World) (rd : Option Nat) (nn : Nat) (Q : Exit → Act → World → Prop) (w0 : Root) (G0 : Hp) (M : Nat → Prop) (E : Nat → Value) (H : Nat → Option OB) (hid : Nat) (K : SV → List (Nat × Option OB) → Hp → Prop) : Prop :=
  o.wpIn (FW rd) nn P a W (fun a' W' => ∃ v, a' = a.put o.dst v ∧ OpPost w0 G0 M E H hid K v W') Q

/-- An operation that leaves the world. -/
theorem Ctx.quiet (C : Ctx w0 G0 Gr G M E H Hv hid fr a W) {v : Value} {sv : SV} (hnd : ∀ c, o.op ≠ .defer c) (h : (execOp a.eval o).run P W = .ok (.value v) W) (hk : fork sv fun sv => K sv [] G) (hr : sv.rel E v) (hm : sv.ment M) :
    Goal P o a W rd nn Q w0 G0 M E H hid K := wp_of_run hnd h (OpPost.quiet C.sim C.mH hk hr hm)

theorem op_mv (C : Ctx w0 G0 Gr G M E H Hv hid fr a W) {x : Operand} {y : Opd} (hx : compOpd x = some y) (hop : o.op = .move x ∨ o.op = .assign x) (hd : (ev tab fr Hv hid (.mv y)).den P hid Gr G K) : Goal P o a W rd nn Q w0 G0 M E H hid K := by
  refine C.quiet (v := a.eval x) (by rcases hop with h | h <;> simp [h]) ?_ hd (opd_rel C.rfr hx) (opd_ment C.mfr y)
  rcases hop with h | h <;> simp [execOp, h]

theorem op_pick (C : Ctx w0 G0 Gr G M E H Hv hid fr a W) {c x z : Operand} {c' x' z' : Opd} (hc : compOpd c = some c') (hx : compOpd x = some x') (hz : compOpd z = some z') (hop : o.op = .pick c x z)
    (hd : (ev tab fr Hv hid (.pick c' x' z')).den P hid Gr G K) : Goal P o a W rd nn Q w0 G0 M E H hid K := by
  have rc := opd_rel C.rfr hc
  simp only [ev] at hd
  split at hd
  · rename_i e
    rw [e] at rc
    have rc : a.eval c = .bool true := rc
    exact C.quiet (by simp [hop]) (by simp [execOp, hop, rc, asBool]) hd (opd_rel C.rfr hx) (opd_ment C.mfr x')
  · rename_i e
    rw [e] at rc
    have rc : a.eval c = .bool false := rc
    exact C.quiet (by simp [hop]) (by simp [execOp, hop, rc, asBool]) hd (opd_rel C.rfr hz) (opd_ment C.mfr z')
  · exact hd.elim

theorem op_bin (C : Ctx w0 G0 Gr G M E H Hv hid fr a W) {op : BinOp} {t t' : TypeId} {x z : Operand} {x' z' : Opd} (hx : compOpd x = some x') (hz : compOpd z = some z') (hop : o.op = .binOp op t x z t')
    (hd : (ev tab fr Hv hid (.bin op x' z')).den P hid Gr G K) : Goal P o a W rd nn Q w0 G0 M E H hid K := by
  have rx := opd_rel C.rfr hx
  have rz := opd_rel C.rfr hz
  simp only [ev] at hd
  split at hd
  case h_2 => exact hd.elim
  rename_i s1 s2 e1 e2
  rw [e1] at rx; rw [e2] at rz
  unfold binR at hd
  split at hd
  case h_2 => exact hd.elim
  rename_i k m k' n
  have rx : a.eval x = .int k m := rx
  have rz : a.eval z = .int k' n := rz
  cases hk : decide (k = k') with
  | false => rw [hk] at hd; exact hd.elim
  | true =>
    rw [hk] at hd
    have hk := of_decide_eq_true hk
    subst hk
    have step : ∀ {v : Value} {sv : SV}, (binOp op t (.int k m) (.int k n)).run P W = .ok v W → (fork sv fun sv => K sv [] G) → sv.rel E v → sv.ment M → Goal P o a W rd nn Q w0 G0 M E H hid K := fun {v sv} h1 h2 h3 h4 =>
      C.quiet (by simp [hop]) (by simp [execOp, hop, rx, rz, eqGuard_at_int, h1]) h2 h3 h4
    have vr : ∀ v : Value, (SV.v v).rel E v := fun _ => rfl
    cases op <;> simp only [cond_true] at hd <;> first | exact hd.elim | skip
    case add => exact step (by rw [binOp_add]; simp [Op.intArith, wrap_inR hd.h]) hd.k.out (vr _) trivial
    case sub => exact step (by rw [binOp_sub]; simp [Op.intArith, wrap_inR hd.h]) hd.k.out (vr _) trivial
    case mul => exact step (by rw [binOp_mul]; simp [Op.intArith, wrap_inR hd.h]) hd.k.out (vr _) trivial
    case quo =>
      obtain ⟨⟨h1, h2, h3⟩, ⟨hd⟩⟩ := hd
      have hn : n ≠ 0 := by omega
      have h4 : inR k (m / n) := by
        have a1 : 0 ≤ m / n := Int.ediv_nonneg h2 (by omega)
        have a2 : m / n ≤ m := Int.ediv_le_self n h2
        cases k <;> simp only [inR] at h3 ⊢ <;> omega
      exact step (by rw [binOp_quo]; simp [Op.intDiv, hn, Int.tdiv_eq_ediv_of_nonneg h2, wrap_inR h4]) hd (vr _) trivial
    case rem =>
      obtain ⟨⟨h1, h2⟩, ⟨hd⟩⟩ := hd
      have hn : n ≠ 0 := by omega
      exact step (by rw [binOp_rem]; simp [Op.intDiv, hn, Int.tmod_eq_emod_of_nonneg h2]) hd (vr _) trivial
    case eql =>
      rw [binOp_eql] at step
      by_cases h : m = n
      · exact step (v := .bool true) (by simp [h]) (hd.t h).out rfl trivial
      · exact step (v := .bool false) (by simp [h]) (hd.f h).out rfl trivial
    case neq =>
      rw [binOp_neq] at step
      by_cases h : m = n
      · exact step (v := .bool false) (by simp [h]) (hd.t h).out rfl trivial
      · exact step (v := .bool true) (by simp [h]) (hd.f h).out rfl trivial
    case lss =>
      rw [binOp_lss] at step
      by_cases h : m < n
      · exact step (v := .bool true) (by simp [h]) (hd.t h).out rfl trivial
      · exact step (v := .bool false) (by simp [h]) (hd.f h).out rfl trivial
    case leq =>
      rw [binOp_leq] at step
      by_cases h : m ≤ n
      · exact step (v := .bool true) (by simp [h]) (hd.t h).out rfl trivial
      · exact step (v := .bool false) (by simp [h]) (hd.f h).out rfl trivial
    case gtr =>
      rw [binOp_gtr] at step
      by_cases h : n < m
      · exact step (v := .bool true) (by simp [h]) (hd.t h).out rfl trivial
      · exact step (v := .bool false) (by simp [h]) (hd.f h).out rfl trivial
    case geq =>
      rw [binOp_geq] at step
      by_cases h : n ≤ m
      · exact step (v := .bool true) (by simp [h]) (hd.t h).out rfl trivial
      · exact step (v := .bool false) (by simp [h]) (hd.f h).out rfl trivial

theorem op_un (C : Ctx w0 G0 Gr G M E H Hv hid fr a W) {op : UnOp} {t : TypeId} {x : Operand} {x' : Opd} (hx : compOpd x = some x') (hop : o.op = .unOp op t x)
    (hd : (ev tab fr Hv hid (.un op x')).den P hid Gr G K) : Goal P o a W rd nn Q w0 G0 M E H hid K := by
  have rx := opd_rel C.rfr hx
  simp only [ev] at hd
  split at hd
  case h_5 => exact hd.elim
  · rename_i b e
    rw [e] at rx
    have rx : a.eval x = .bool b := rx
    exact C.quiet (v := .bool !b) (by simp [hop]) (by simp [execOp, hop, rx, Op.unary]) hd rfl trivial
  · rename_i e
    rw [e] at rx
    have rx : a.eval x = .bool true := rx
    exact C.quiet (v := .bool false) (by simp [hop]) (by simp [execOp, hop, rx, Op.unary]) hd rfl trivial
  · rename_i e
    rw [e] at rx
    have rx : a.eval x = .bool false := rx
    exact C.quiet (v := .bool true) (by simp [hop]) (by simp [execOp, hop, rx, Op.unary]) hd rfl trivial
  · rename_i k n e
    rw [e] at rx
    have rx : a.eval x = .int k n := rx
    have h1 := hd.h
    exact C.quiet (v := .int k (-n)) (by simp [hop]) (by simp [execOp, hop, rx, Op.unary, Op.intArith, wrap_inR h1]) hd.k.out rfl trivial

theorem op_conv (C : Ctx w0 G0 Gr G M E H Hv hid fr a W) {s t : TypeId} {k k' : IntKind} {x : Operand} {x' : Opd} (hx : compOpd x = some x') (hs : P.underlying s = some (.int k')) (ht : P.underlying t = some (.int k)) (hop : o.op = .convert s t x)
    (hd : (ev tab fr Hv hid (.conv k x')).den P hid Gr G K) : Goal P o a W rd nn Q w0 G0 M E H hid K := by
  have rx := opd_rel C.rfr hx
  simp only [ev] at hd
  split at hd
  case h_2 => exact hd.elim
  rename_i q n e
  rw [e] at rx
  have rx : a.eval x = .int q n := rx
  have h1 := hd.h
  exact C.quiet (v := .int k n) (by simp [hop]) (by simp [execOp, hop, rx, convert, run_underlying hs, run_underlying ht, Conv.intToInt, wrap_inR h1]) hd.k.out rfl trivial

theorem op_faddr (C : Ctx w0 G0 Gr G M E H Hv hid fr a W) {s : TypeId} {fs : Array Field} {i n : Nat} {f : Field} {x : Operand} {x' : Opd} (hx : compOpd x = some x') (hs : P.underlying s = some (.struct fs)) (hf : fs[i]? = some f) (hn : szT P f.type = some n) (hn1 : 1 ≤ n)
    (hop : o.op = .fieldAddr s x i) (hd : (ev tab fr Hv hid (.faddr f.offset x')).den P hid Gr G K) : Goal P o a W rd nn Q w0 G0 M E H hid K := by
  have rx := opd_rel C.rfr hx
  have hm := opd_ment C.mfr x'
  have h2 := run_sizeOf' (W := W) hn
  have run : ∀ b off, a.eval x = .pointer (some ⟨b, off, none⟩) → (execOp a.eval o).run P W = .ok (.value (.pointer (some ⟨b, off + f.offset, none⟩))) W := fun b off e => by
    have : ¬ n = 0 := by omega
    simp [execOp, hop, e, Instr.fieldAt, run_underlying hs, hf, Instr.sureAddr, fieldPlace, h2, this, Addr.add_lit]
  simp only [ev] at hd
  split at hd
  case h_5 => exact hd.elim
  case h_3 =>
    rename_i h off e
    rw [e] at rx hm
    obtain ⟨b, e1, e2⟩ := rx
    exact C.quiet (by simp [hop]) (run b off e2) hd ⟨b, e1, rfl⟩ hm
  · rename_i h off e
    rw [e] at rx hm
    obtain ⟨b, e1, e2⟩ := rx
    exact C.quiet (by simp [hop]) (run b off e2) hd ⟨b, e1, rfl⟩ hm
  · rename_i h off e
    rw [e] at rx hm
    obtain ⟨b, m, c, e1, e2⟩ := rx
    exact C.quiet (by simp [hop]) (run b off e2) hd ⟨b, m, c, e1, rfl⟩ hm
  · rename_i b off e
    rw [e] at rx
    exact C.quiet (by simp [hop]) (run b off rx) hd rfl trivial

end
end Go.Pal
