/- Part F: the operations that only read. Conditions: none. -/
import Derived.Test.YtnkblnmcabfbmaaAbsE
import Derived.Laws.Small
import Derived.Laws.Build
import Derived.MapKept
set_option linter.unusedVariables false
set_option linter.unusedSimpArgs false
namespace Go.Ab
open Go.RowKit

variable {P : Program}

theorem flatten_at {α : Type} {sz : Nat} : ∀ {es : List (List α)}, (∀ e ∈ es, e.length = sz) → ∀ {i : Nat} {e : List α}, es[i]? = some e → ∀ {j : Nat} {a : α}, e[j]? = some a → es.flatten[i * sz + j]? = some a
  | [], _, i, e, h, _, _, _ => by simp at h
  | x :: es, hz, i, e, h, j, a, hj => by
    have hx : x.length = sz := hz x (by simp)
    cases i with
    | zero =>
      simp at h; subst h
      have : j < x.length := (List.getElem?_eq_some_iff.1 hj).1
      rw [List.flatten_cons, Nat.zero_mul, Nat.zero_add, List.getElem?_append_left this]; exact hj
    | succ i =>
      have := flatten_at (es := es) (fun e he => hz e (List.mem_cons_of_mem _ he)) (by simpa using h) hj
      rw [List.flatten_cons, List.getElem?_append_right (by rw [Nat.succ_mul]; omega)]
      rw [show (i + 1) * sz + j - x.length = i * sz + j by rw [Nat.succ_mul]; omega]
      exact this
theorem flatten_len {α : Type} {sz : Nat} : ∀ {es : List (List α)}, (∀ e ∈ es, e.length = sz) → es.flatten.length = es.length * sz
  | [], _ => by simp
  | x :: es, hz => by
    rw [List.flatten_cons, List.length_append, flatten_len (fun e he => hz e (by simp [he])), hz x (by simp), List.length_cons, Nat.succ_mul]; omega
theorem flatten_drop {α : Type} {sz : Nat} : ∀ {es : List (List α)}, (∀ e ∈ es, e.length = sz) → ∀ (l : Nat), (es.drop l).flatten = es.flatten.drop (l * sz)
  | [], _, l => by simp
  | x :: es, hz, 0 => by simp
  | x :: es, hz, l + 1 => by
    have hx : x.length = sz := hz x (by simp)
    have e1 : (l + 1) * sz = x.length + l * sz := by rw [hx, Nat.succ_mul]; omega
    rw [List.drop_succ_cons, flatten_drop (fun e he => hz e (List.mem_cons_of_mem _ he)) l, List.flatten_cons, e1, List.drop_length_add_append]
theorem flatten_take {α : Type} {sz : Nat} : ∀ {es : List (List α)}, (∀ e ∈ es, e.length = sz) → ∀ (l : Nat), (es.take l).flatten = es.flatten.take (l * sz)
  | [], _, l => by simp
  | x :: es, hz, 0 => by simp
  | x :: es, hz, l + 1 => by
    have hx : x.length = sz := hz x (by simp)
    have e1 : (l + 1) * sz = x.length + l * sz := by rw [hx, Nat.succ_mul]; omega
    rw [List.take_succ_cons, List.flatten_cons, flatten_take (fun e he => hz e (List.mem_cons_of_mem _ he)) l, List.flatten_cons, e1, List.take_length_add_append]

theorem run_sizeOf {t : TypeId} {n : Nat} (h : szOf P t = some n) (w : World) : (sizeOf t).run P w = .ok n w := by
  unfold szOf at h
  cases hi : P.info? t with
  | none => rw [hi] at h; cases h
  | some i => rw [hi] at h; simp at h; subst h; simp [sizeOf, typeInfo, hi]
theorem run_isAgg {t : TypeId} {b : Bool} (h : agOf P t = some b) (w : World) : (isAgg t).run P w = .ok b w := by
  unfold agOf at h
  cases hu : P.underlying t with
  | none => simp [hu] at h
  | some d =>
    rw [hu] at h
    cases d <;> simp at h <;> subst h <;> simp [isAgg, run_underlying hu]

/-! ### Whole numbers, bools -/
theorem run_eqGuard_int {op : BinOp} {t : TypeId} {x y : Operand} {k k' : IntKind} {a b : Int} (w : World) : (eqGuard op t x y (.int k a) (.int k' b)).run P w = .ok () w := by
  cases op <;> simp [eqGuard]
theorem run_eqGuard_bool {op : BinOp} {t : TypeId} {x y : Operand} {a b : Bool} (w : World) : (eqGuard op t x y (.bool a) (.bool b)).run P w = .ok () w := by
  cases op <;> simp [eqGuard]
theorem ok_bin {o : Oper} {op : BinOp} {t yt : TypeId} {x y : Operand} {ax ay : AX} (ho : o.op = .binOp op t x y yt) (h1 : cx x = some ax) (h2 : cx y = some ay) {σ σ1 : St} {z : TV} {d : Nat} (he : evo d (.bin op ax ay) σ = some (z, σ1)) : OkAt P o z σ σ1 := by
  simp only [evo] at he
  split at he
  · rename_i k a k' b e1 e2
    split at he
    · rename_i hk
      subst hk
      split at he
      · rename_i r hr
        cases he
        refine ok_val fun g0 h0 w0 g lb act w m T => ?_
        have hx := a_rv T h1 e1
        have hy := a_rv T h2 e2
        generalize hgx : act.eval x = vx at hx
        generalize hgy : act.eval y = vy at hy
        cases hx; cases hy
        obtain ⟨v, hv, hg⟩ := run_binI (P := P) hr t w
        exact ⟨v, exec_v (s := do eqGuard op t x y (.int k a) (.int k b); binOp op t (.int k a) (.int k b)) (by simp only [execOp, ho, hgx, hgy]) (by simp [run_eqGuard_int, hv]), hg g⟩
      · cases he
    · cases he
  · cases he
theorem ok_eqb {o : Oper} {neg : Bool} {t yt : TypeId} {x y : Operand} {ax ay : AX} (ho : o.op = .binOp (if neg then .neq else .eql) t x y yt) (ht : P.underlying t = some .bool) (h1 : cx x = some ax) (h2 : cx y = some ay) {σ σ1 : St} {z : TV} {d : Nat} (he : evo d (.eqb neg ax ay) σ = some (z, σ1)) : OkAt P o z σ σ1 := by
  simp only [evo] at he
  split at he
  · rename_i a b e1 e2
    cases he
    refine ok_val fun g0 h0 w0 g lb act w m T => ?_
    have hx := a_rv T h1 e1
    have hy := a_rv T h2 e2
    generalize hgx : act.eval x = vx at hx
    generalize hgy : act.eval y = vy at hy
    cases hx; cases hy
    cases neg
    · refine ⟨_, exec_v (s := do eqGuard .eql t x y (.bool a) (.bool b); binOp .eql t (.bool a) (.bool b)) (v := .bool (a == b)) (by simp [execOp, ho, hgx, hgy]) (by simp [run_eqGuard_bool, run_eql_bool w t a b ht]), .bool _⟩
    · exact ⟨_, exec_v (s := do eqGuard .neq t x y (.bool a) (.bool b); binOp .neq t (.bool a) (.bool b)) (v := .bool (!(a == b))) (by simp [execOp, ho, hgx, hgy]) (by simp [run_eqGuard_bool, run_neq_bool w t a b ht]), .bool _⟩
  · cases he
theorem ok_not {o : Oper} {t : TypeId} {x : Operand} {ax : AX} (ho : o.op = .unOp .not t x) (h1 : cx x = some ax) {σ σ1 : St} {z : TV} {d : Nat} (he : evo d (.not ax) σ = some (z, σ1)) : OkAt P o z σ σ1 := by
  simp only [evo] at he
  split at he
  · rename_i b e1
    cases he
    refine ok_val fun g0 h0 w0 g lb act w m T => ?_
    have hx := a_rv T h1 e1
    generalize hgx : act.eval x = vx at hx
    cases hx
    exact ⟨_, by simp [execOp, ho, hgx, Op.unary], .bool _⟩
  · cases he
theorem ok_cv {o : Oper} {s t : TypeId} {sd : TypeDesc} {k : IntKind} {x : Operand} {ax : AX} (ho : o.op = .convert s t x) (hs : P.underlying s = some sd) (ht : P.underlying t = some (.int k)) (h1 : cx x = some ax) {σ σ1 : St} {z : TV} {d : Nat} (he : evo d (.cv k ax) σ = some (z, σ1)) : OkAt P o z σ σ1 := by
  simp only [evo] at he
  split at he
  · rename_i k' n e1
    cases he
    refine ok_val fun g0 h0 w0 g lb act w m T => ?_
    have hx := a_rv T h1 e1
    generalize hgx : act.eval x = vx at hx
    cases hx
    exact ⟨.int k (k.wrap n), by simp [execOp, ho, hgx, convert, run_underlying hs, run_underlying ht, Conv.intToInt], .int _ _⟩
  · cases he
theorem ok_mx {o : Oper} {x y : Operand} {ax ay : AX} {at_ : Array TypeId} (ho : o.op = .call { callee := .builtin .max, args := #[x, y], argTypes := at_ }) (h1 : cx x = some ax) (h2 : cx y = some ay) {σ σ1 : St} {z : TV} {d : Nat} (he : evo d (.mx ax ay) σ = some (z, σ1)) : OkAt P o z σ σ1 := by
  simp only [evo] at he
  split at he
  · rename_i k a k' b e1 e2
    split at he
    · rename_i hk
      subst hk
      cases he
      refine ok_val fun g0 h0 w0 g lb act w m T => ?_
      have hx := a_rv T h1 e1
      have hy := a_rv T h2 e2
      generalize hgx : act.eval x = vx at hx
      generalize hgy : act.eval y = vy at hy
      cases hx; cases hy
      refine ⟨.int k (if b > a then b else a), ?_, .int _ _⟩
      simp [execOp, ho, resolve, invoke, builtin, Builtin.max_, Builtin.max2, hgx, hgy]
    · cases he
  · cases he
theorem ok_len {o : Oper} {t e : TypeId} {x : Operand} {ax : AX} (ho : o.op = .call { callee := .builtin .len, args := #[x], argTypes := #[t] }) (ht : P.underlying t = some (.slice e)) (h1 : cx x = some ax) {σ σ1 : St} {z : TV} {d : Nat} (he : evo d (.len ax) σ = some (z, σ1)) : OkAt P o z σ σ1 := by
  simp only [evo] at he
  split at he
  · rename_i b e1
    split at he
    · rename_i es e2
      cases he
      refine ok_val fun g0 h0 w0 g lb act w m T => ?_
      have hx := a_rv T h1 e1
      generalize hgx : act.eval x = vx at hx
      have key : ∃ A c, vx = .slice A es.length c := by
        unfold elems at e2
        split at e2
        · cases e2
          cases hx with
          | sl0 A c => exact ⟨A, c, rfl⟩
          | sl f hl => subst hl; exact ⟨_, _, rfl⟩
        · cases e2
          cases hx
          exact ⟨none, 0, rfl⟩
        · rename_i id ver
          split at e2
          · rename_i v sz es' hh
            split at e2
            · rename_i hv
              cases e2
              subst hv
              cases hx with
              | ol hd =>
                have := m.sat.obj _ _ hh
                rcases this with ⟨h3, h4⟩ | ⟨b, cap, c, t', l1, l2, h3, _⟩
                · rw [hd] at h4; cases h4; subst h3; exact ⟨_, _, rfl⟩
                · rw [hd] at h3; cases h3; exact ⟨_, _, rfl⟩
            · cases e2
          · cases e2
        · cases e2
      obtain ⟨A, c, rfl⟩ := key
      exact ⟨.int .i64 (es.length : Int), by simp [execOp, ho, resolve, invoke, builtin, Builtin.len_, hgx, run_underlying ht, goInt], .int _ _⟩
    · cases he
  · cases he

/-! ### Parts -/
theorem rd_ok {g : G} {n : Nat} {ag : Bool} {cs : List AV} {x : TV} (h : rd n ag cs = some x) {us : List Value} (hr : RVs g cs us) :
    (ag = true ∧ n ≤ us.length ∧ x = .v (.agg (cs.take n)) ∧ RV g (.agg (cs.take n)) (.agg (us.take n).toArray)) ∨ (ag = false ∧ ∃ a u r, cs = a :: r ∧ us[0]? = some u ∧ x = .v a ∧ RV g a u) := by
  unfold rd at h
  split at h
  · rename_i hl
    split at h
    · cases h
      exact .inl ⟨rfl, by rw [← hr.1]; exact hl, rfl, RV.agg_iff.2 (hr.take n)⟩
    · split at h
      · rename_i a r
        cases h
        obtain ⟨u, us', rfl, h1, h2⟩ := hr.inv
        exact .inr ⟨rfl, a, u, r, rfl, by simp, rfl, h1⟩
      · cases h
  · cases h
theorem run_loadAt {g : G} {t : TypeId} {n : Nat} {ag : Bool} (hn : szOf P t = some n) (hag : agOf P t = some ag) {w : World} {b o : Nat} {us : List Value} (hus : ∀ (j : Nat) (u : Value), us[j]? = some u → w.cell? ⟨b, o + j, none⟩ = some u)
    {cs : List AV} (hr : RVs g cs us) {x : TV} (hrd : rd n ag cs = some x) : ∃ v y, (Instr.loadAt t (.pointer (some ⟨b, o, none⟩))).run P w = .ok v w ∧ x = .v y ∧ RV g y v := by
  rcases rd_ok hrd hr with ⟨rfl, h1, h2, h3⟩ | ⟨rfl, a, u, r, h1, h2, h3, h4⟩
  · refine ⟨_, _, ?_, h2, h3⟩
    have hc := run_loadCells_list (P := P) w ⟨b, o, none⟩ (us.take n) (fun j v hj => by
      rw [Addr.add_lit]; rw [List.getElem?_take] at hj; split at hj
      · exact hus j v hj
      · cases hj)
    rw [List.length_take, Nat.min_eq_left h1] at hc
    simp [Instr.loadAt, Instr.sureAddr, loadVar, run_isAgg hag, run_sizeOf hn, hc]
  · refine ⟨u, a, ?_, h3, h4⟩
    have := hus 0 u h2
    simp only [Nat.add_zero] at this
    simp [Instr.loadAt, Instr.sureAddr, loadVar, run_isAgg hag, this]

theorem lst_cells {g : G} {w : World} {h : List AO} (s : Sat g h w) {id ver sz : Nat} {es : List (List AV)} (hh : h[id]? = some (.lst ver sz es)) {b n c : Nat} (hd : g.hd id ver = some (some ⟨b, 0, none⟩, n, c)) :
    ∃ cs t l1 l2, w.heap[b]? = some (.cells cs t (0, 0)) ∧ cs.size = c * sz ∧ 0 < sz ∧ es.length ≤ c ∧ es.length ≤ maxN ∧ n = es.length ∧ (∀ e ∈ es, e.length = sz) ∧ cs.toList = l1 ++ l2 ∧ RVs g es.flatten l1 ∧ (∀ a ∈ es.flatten, a.one = true) := by
  rcases s.obj _ _ hh with ⟨_, h1⟩ | ⟨b', cap, c', t, l1, l2, h1, h2, h3, h4, h5, h6, h7, h8, h9⟩
  · rw [hd] at h1; cases h1
  · rw [hd] at h1; cases h1; exact ⟨c', t, l1, l2, h2, h3, h4, h5, h6, rfl, h7, h8, h9⟩

theorem cell_of_block {w : World} {b o : Nat} {c : Array Value} {t : TypeId} {fr : Nat × Nat} (h : w.heap[b]? = some (.cells c t fr)) : w.cell? ⟨b, o, none⟩ = c[o]? := by
  simp [World.cell?, h]

theorem ok_ld {o : Oper} {t : TypeId} {n : Nat} {ag : Bool} {x : Operand} {ax : AX} (ho : o.op = .load t x) (hn : szOf P t = some n) (hag : agOf P t = some ag) (h1 : cx x = some ax) {σ σ1 : St} {z : TV} {d : Nat} (he : evo d (.ld n ag ax) σ = some (z, σ1)) : OkAt P o z σ σ1 := by
  have fin : ∀ {act : Act} {g : G} {w : World} {b off : Nat} {us : List Value} {cs : List AV}, act.eval x = .pointer (some ⟨b, off, none⟩) → (∀ (j : Nat) (u : Value), us[j]? = some u → w.cell? ⟨b, off + j, none⟩ = some u) → RVs g cs us → rd n ag cs = some z →
      ∃ v, (execOp act.eval o).run P w = .ok (.value v) w ∧ RT g (fun _ => 0) z v ∧ ∃ y, z = .v y ∧ RV g y v := by
    intro act g w b off us cs hp hus hr hrd
    obtain ⟨v, y, h2, h3, h4⟩ := run_loadAt hn hag hus hr hrd
    exact ⟨v, exec_v (s := Instr.loadAt t (act.eval x)) (by simp only [execOp, ho]) (by rw [hp]; exact h2), by rw [h3]; exact h4, y, h3, h4⟩
  simp only [evo] at he
  split at he
  · rename_i k off hq
    split at he
    · rename_i cs hl
      split at he
      · rename_i y hrd
        cases he
        refine .pure fun g0 h0 w0 g lb act w m T => ?_
        have hv := ax_rt T h1; rw [hq] at hv
        have hv : act.eval x = .pointer (some ⟨lb k, off, none⟩) := hv
        obtain ⟨c, t', h3, h4⟩ := m.lok.ok k cs hl
        obtain ⟨v, h5, _, y', rfl, h6⟩ := fin (us := c.toList.drop off) hv (fun j u hj => by
          rw [cell_of_block h3]; rw [List.getElem?_drop] at hj; simpa using hj) (h4.drop off) hrd
        exact ⟨v, h5, h6, fun k off e => by cases e⟩
      · cases he
    · cases he
  · rename_i cs hq
    split at he
    · rename_i y hrd
      cases he
      refine .pure fun g0 h0 w0 g lb act w m T => ?_
      have hv := ax_rt T h1; rw [hq] at hv
      obtain ⟨b, off, hp, f, h3, h4⟩ := hv
      obtain ⟨v, h5, _, y', rfl, h6⟩ := fin (us := (List.range cs.length).map f) hp (fun j u hj => by
          rw [List.getElem?_map] at hj
          by_cases hl : j < cs.length
          · rw [List.getElem?_range hl] at hj
            simp at hj; subst hj
            obtain ⟨c, t', fr, h7, h8⟩ := m.sat.fz _ _ _ (h3 j cs[j] (by simp [hl]))
            rw [cell_of_block h7]; exact h8
          · rw [List.getElem?_eq_none (by simp; omega)] at hj; cases hj)
        ⟨by simp, fun i a v ha hv => by
          have hl : i < cs.length := (List.getElem?_eq_some_iff.1 ha).1
          rw [List.getElem?_map, List.getElem?_range hl] at hv
          simp at hv; subst hv; exact h4 i a ha⟩ hrd
      exact ⟨v, h5, h6, fun k off e => by cases e⟩
    · cases he
  · rename_i id off hq
    split at he
    · rename_i cs hh
      split at he
      · rename_i y hrd
        cases he
        refine .pure fun g0 h0 w0 g lb act w m T => ?_
        have hv := ax_rt T h1; rw [hq] at hv
        have hv : RV g (.ptr id off) (act.eval x) := hv
        generalize hgx : act.eval x = vx at hv
        cases hv with
        | ptr hb =>
          obtain ⟨b, c, t', h2, h3, h4⟩ := m.sat.obj _ _ hh
          rw [hb] at h2; cases h2
          obtain ⟨v, h5, _, y', rfl, h6⟩ := fin (us := c.toList.drop off) hgx (fun j u hj => by
            rw [cell_of_block h3]; rw [List.getElem?_drop] at hj; simpa using hj) (h4.drop off) hrd
          exact ⟨v, h5, h6, fun k off e => by cases e⟩
      · cases he
    · cases he
  · rename_i id ver sz i off hq
    split at he
    · rename_i v0 sz' es hh
      split at he
      · rename_i hvs
        obtain ⟨rfl, rfl⟩ := hvs
        split at he
        · rename_i e hes
          split at he
          · rename_i y hrd
            cases he
            refine .pure fun g0 h0 w0 g lb act w m T => ?_
            have hv := ax_rt T h1; rw [hq] at hv
            obtain ⟨b, n0, c0, hd, hp⟩ := hv
            obtain ⟨c, t', l1, l2, h3, _, _, _, _, _, hz, hl, h9, _⟩ := lst_cells m.sat hh hd
            have hr : RVs g e ((l1.drop (i * sz')).take e.length) := by
              have hfl := flatten_len hz
              have he' : e.length = sz' := hz e (List.mem_of_getElem? hes)
              have hi : i < es.length := (List.getElem?_eq_some_iff.1 hes).1
              have hle : i * sz' + sz' ≤ es.length * sz' := by rw [← Nat.succ_mul]; exact Nat.mul_le_mul_right _ hi
              refine ⟨by rw [List.length_take, List.length_drop, ← h9.1, hfl]; omega, fun j a v ha hv => ?_⟩
              rw [List.getElem?_take] at hv
              split at hv
              · rw [List.getElem?_drop] at hv
                exact h9.2 _ a v (flatten_at hz hes ha) hv
              · cases hv
            obtain ⟨v, h5, _, y', rfl, h6⟩ := fin (us := ((l1.drop (i * sz')).take e.length).drop off) hp (fun j u hj => by
              rw [cell_of_block h3]
              rw [List.getElem?_drop, List.getElem?_take] at hj
              split at hj
              · rw [List.getElem?_drop] at hj
                have : c.toList[i * sz' + off + j]? = some u := by
                  rw [hl, List.getElem?_append_left (by have := (List.getElem?_eq_some_iff.1 hj).1; omega), Nat.add_assoc]; exact hj
                simpa using this
              · cases hj) (hr.drop off) hrd
            exact ⟨v, h5, h6, fun k off e => by cases e⟩
          · cases he
        · cases he
      · cases he
    · cases he
  · cases he
theorem ok_ldl {o : Oper} {t : TypeId} {n : Nat} {ag : Bool} {x : Operand} {ax : AX} (ho : o.op = .load t x) (hn : szOf P t = some n) (hag : agOf P t = some ag) (h1 : cx x = some ax) {σ σ1 : St} {z : TV} {d : Nat} (he : evo d (.ldl n ag ax) σ = some (z, σ1)) : OkAt P o z σ σ1 := by
  refine ok_ld ho hn hag h1 (d := d) ?_
  simp only [evo] at he ⊢
  split at he
  · rename_i k off hx
    rw [hx]
    exact he
  · cases he
end Go.Ab
