/- Part E: each operation of the small code is what the program's operation does: those that leave memory alone. Conditions: none. -/
import Derived.Test.YtnkblnmcabfbmaaAbsD
import Derived.Laws.Slices
set_option linter.unusedVariables false
set_option linter.unusedSimpArgs false
namespace Go.Ab
open Go.RowKit

variable {P : Program}

theorem getD_len {α : Type} {l : List α} {i : Nat} {d : α} (h : i < l.length) : l[i]? = some (l.getD i d) := by simp [List.getD, h]
theorem ax_rt {σ : St} {a : Act} {g : G} {lb : Nat → Nat} (T : Tm g lb σ.ls σ.t a.tmps) {x : Operand} {ax : AX} (hx : cx x = some ax) : RT g lb (σ.x ax) (a.eval x) := by
  cases x with
  | tmp i =>
    simp only [cx] at hx; injection hx with hx; subst hx
    exact T.at_ i
  | const v =>
    simp only [cx] at hx
    cases hc : constAV v with
    | none => rw [hc] at hx; cases hx
    | some b => rw [hc] at hx; injection hx with hx; subst hx; exact constAV_ok hc g
  | func f =>
    simp only [cx] at hx; injection hx with hx; subst hx
    exact .fn rfl rfl (fun i a v hx => by simp at hx) (fun i a v hx => by simp at hx)
  | global n => simp [cx] at hx
theorem a_eq {σ : St} {ax : AX} {y : AV} (h : σ.a ax = some y) : σ.x ax = .v y := by
  unfold St.a TV.av at h
  split at h
  · rename_i b hb; injection h with h; subst h; exact hb
  · cases h
theorem a_rv {σ : St} {a : Act} {g : G} {lb : Nat → Nat} (T : Tm g lb σ.ls σ.t a.tmps) {x : Operand} {ax : AX} (hx : cx x = some ax) {y : AV} (h : σ.a ax = some y) : RV g y (a.eval x) := by
  have := ax_rt T hx; rw [a_eq h] at this; exact this
theorem as_rvs {σ : St} {a : Act} {g : G} {lb : Nat → Nat} (T : Tm g lb σ.ls σ.t a.tmps) : ∀ {l : List Operand} {axs : List AX}, cxs l = some axs → ∀ {ys : List AV}, σ.as axs = some ys → RVs g ys (l.map a.eval)
  | [], axs, hx, ys, h => by simp [cxs, mapO] at hx; subst hx; simp [St.as] at h; subst h; exact .nil g
  | x :: l, axs, hx, ys, h => by
    unfold cxs at hx
    simp only [mapO] at hx
    cases h1 : cx x with
    | none => rw [h1] at hx; cases hx
    | some ax =>
      rw [h1] at hx
      cases h2 : mapO cx l with
      | none => simp only [h2] at hx; cases hx
      | some r =>
        simp only [h2] at hx; injection hx with hx; subst hx
        simp only [St.as] at h
        cases h3 : σ.a ax with
        | none => rw [h3] at h; cases h
        | some y =>
          rw [h3] at h
          cases h4 : σ.as r with
          | none => simp only [h4] at h; cases h
          | some s => simp only [h4] at h; injection h with h; subst h; exact .cons (a_rv T h1 h3) (as_rvs T h2 h4)
theorem x_live {σ : St} {a : Act} {g : G} {lb : Nat → Nat} (T : Tm g lb σ.ls σ.t a.tmps) {ax : AX} {k off : Nat} (h : σ.x ax = .lp k off) : look k σ.ls ≠ none := by
  cases ax with
  | t i =>
    exact T.live i k off h
  | c b => cases h

/-- One operation is carried out as told. -/
def OkAt (P : Program) (o : Oper) (x : TV) (σ σ1 : St) : Prop :=
  ∀ g0 h0 w0 g lb (a : Act) w, Mid g0 h0 w0 g lb σ.ls σ.h w → Tm g lb σ.ls σ.t a.tmps →
    ∃ v w' g' lb', ((execOp a.eval o).run P w = .ok (.value v) w' ∨ ((execOp a.eval o).run P w = .ok .skip w' ∧ v = undef)) ∧ Mid g0 h0 w0 g' lb' σ1.ls σ1.h w' ∧ Ee g lb σ.ls σ.h g' lb' σ1.ls σ1.h ∧
      RT g' lb' x v ∧ (∀ k off, x = .lp k off → look k σ1.ls ≠ none) ∧ σ1.t = σ.t ∧ σ1.ds = σ.ds
theorem OkAt.pure {o : Oper} {x : TV} {σ : St}
    (h : ∀ g0 h0 w0 g lb (a : Act) w, Mid g0 h0 w0 g lb σ.ls σ.h w → Tm g lb σ.ls σ.t a.tmps → ∃ v, (execOp a.eval o).run P w = .ok (.value v) w ∧ RT g lb x v ∧ (∀ k off, x = .lp k off → look k σ.ls ≠ none)) :
    OkAt P o x σ σ := fun g0 h0 w0 g lb a w m T =>
  let ⟨v, h1, h2, h3⟩ := h g0 h0 w0 g lb a w m T
  ⟨v, w, g, lb, .inl h1, m, .refl _ _ _ _, h2, h3, rfl, rfl⟩
theorem exec_v {o : Oper} {ρ : Operand → Value} {w w' : World} {s : Sem Value} {v : Value} (he : execOp ρ o = (do pure (.value (← s)))) (hs : s.run P w = .ok v w') :
    (execOp ρ o).run P w = .ok (.value v) w' := by rw [he]; simp [hs]
theorem exec_u {o : Oper} {ρ : Operand → Value} {w w' : World} {s : Sem Unit} (he : execOp ρ o = (do s; pure .skip)) (hs : s.run P w = .ok () w') :
    (execOp ρ o).run P w = .ok .skip w' := by rw [he]; simp [hs]

/-! ### Plain operations -/
theorem ok_mv {o : Oper} {x : Operand} {ax : AX} (ho : o.op = .move x ∨ o.op = .assign x) (hx : cx x = some ax) (σ : St) : OkAt P o (σ.x ax) σ σ :=
  .pure fun g0 h0 w0 g lb a w m T => ⟨a.eval x, by rcases ho with ho | ho <;> simp [execOp, ho], ax_rt T hx, fun k off e => x_live T e⟩
theorem ok_pick {o : Oper} {c x y : Operand} {ac a1 a2 : AX} (ho : o.op = .pick c x y) (hc : cx c = some ac) (h1 : cx x = some a1) (h2 : cx y = some a2) {σ : St} {p : Bool} (hp : σ.a ac = some (.bool p)) :
    OkAt P o (if p then σ.x a1 else σ.x a2) σ σ :=
  .pure fun g0 h0 w0 g lb a w m T => by
    have hcv := a_rv T hc hp
    generalize hv : a.eval c = cv at hcv
    cases hcv
    cases p
    · exact ⟨a.eval y, by simp [execOp, ho, hv, asBool], ax_rt T h2, fun k off e => x_live T (by simpa using e)⟩
    · exact ⟨a.eval x, by simp [execOp, ho, hv, asBool], ax_rt T h1, fun k off e => x_live T (by simpa using e)⟩
theorem ok_val {o : Oper} {σ : St} {y : AV} (h : ∀ g0 h0 w0 g lb (a : Act) w, Mid g0 h0 w0 g lb σ.ls σ.h w → Tm g lb σ.ls σ.t a.tmps → ∃ v, (execOp a.eval o).run P w = .ok (.value v) w ∧ RV g y v) : OkAt P o (.v y) σ σ :=
  .pure fun g0 h0 w0 g lb a w m T => let ⟨v, h1, h2⟩ := h g0 h0 w0 g lb a w m T; ⟨v, h1, h2, fun k off e => by cases e⟩

theorem ok_nilc {o : Oper} {x : Operand} {ax : AX} (ho : o.op = .nilCheck x) (hx : cx x = some ax) {σ : St} {d : Nat} {y : TV} {σ1 : St} (he : evo d (.nilc ax) σ = some (y, σ1)) : OkAt P o y σ σ1 := by
  simp only [evo] at he
  split at he
  · rename_i id off hq
    injection he with he; injection he with e1 e2; subst e1; subst e2
    refine ok_val fun g0 h0 w0 g lb a w m T => ?_
    have hv := ax_rt T hx; rw [hq] at hv
    have hv : RV g (.ptr id off) (a.eval x) := hv
    generalize hg : a.eval x = xv at hv
    cases hv with
    | ptr h => exact ⟨_, by simp [execOp, ho, hg], .ptr h⟩
  · rename_i k off hq
    injection he with he; injection he with e1 e2; subst e1; subst e2
    refine .pure fun g0 h0 w0 g lb a w m T => ?_
    have hv := ax_rt T hx; rw [hq] at hv
    have hv : a.eval x = .pointer (some ⟨lb k, off, none⟩) := hv
    exact ⟨_, by simp [execOp, ho, hv], rfl, fun k' off' e => by injection e with e1 _; subst e1; exact x_live T hq⟩
  · rename_i f fa fc hq
    split at he
    · cases he
    · rename_i hne
      injection he with he; injection he with e1 e2; subst e1; subst e2
      refine ok_val fun g0 h0 w0 g lb a w m T => ?_
      have hv := ax_rt T hx; rw [hq] at hv
      have hv : RV g (.fn f fa fc) (a.eval x) := hv
      generalize hg : a.eval x = xv at hv
      cases hv with
      | fn h1 h2 h3 h4 =>
        refine ⟨_, ?_, .fn h1 h2 h3 h4⟩
        cases f <;> first
          | (exfalso; exact hne _ rfl)
          | simp [execOp, ho, hg]
  · cases he

theorem run_binI {op : BinOp} {k : IntKind} {x y : Int} {r : AV} (h : binI op k x y = some r) (t : TypeId) (w : World) : ∃ v, (binOp op t (.int k x) (.int k y)).run P w = .ok v w ∧ ∀ g, RV g r v := by
  cases op <;> simp only [binI] at h
  case add => cases h; exact ⟨_, by simp [binOp, Op.intArith], fun g => .int _ _⟩
  case sub => cases h; exact ⟨_, by simp [binOp, Op.intArith], fun g => .int _ _⟩
  case mul => cases h; exact ⟨_, by simp [binOp, Op.intArith], fun g => .int _ _⟩
  case quo =>
    split at h
    · cases h
    · rename_i hy; cases h; exact ⟨_, by simp [binOp, Op.intDiv, hy], fun g => .int _ _⟩
  case rem =>
    split at h
    · cases h
    · rename_i hy; cases h; exact ⟨_, by simp [binOp, Op.intDiv, hy], fun g => .int _ _⟩
  case eql => cases h; exact ⟨.bool (x == y), by simp [binOp, Op.intCmp], fun g => by rw [show (x == y) = decide (x = y) from rfl]; exact .bool _⟩
  case neq => cases h; exact ⟨.bool (x != y), by simp [binOp, Op.intCmp], fun g => by rw [show (x != y) = !decide (x = y) from rfl]; exact .bool _⟩
  case lss => cases h; exact ⟨.bool (decide (x < y)), by simp [binOp, Op.intCmp], fun g => .bool _⟩
  case leq => cases h; exact ⟨.bool (decide (x ≤ y)), by simp [binOp, Op.intCmp], fun g => .bool _⟩
  case gtr => cases h; exact ⟨.bool (decide (x > y)), by simp [binOp, Op.intCmp], fun g => .bool _⟩
  case geq => cases h; exact ⟨.bool (decide (x ≥ y)), by simp [binOp, Op.intCmp], fun g => .bool _⟩
  all_goals cases h
end Go.Ab
