/- Part I: stores, maps, slices that are made and grow. Conditions: none. -/
import Derived.Test.YtnkblnmcabfbmaaAbsH
import Derived.Laws.AppendOwn
import Derived.Laws.MakeOwn
set_option linter.unusedVariables false
set_option linter.unusedSimpArgs false
namespace Go.Ab
open Go.RowKit

variable {P : Program}

theorem setRow_putObj {w : World} {b : Nat} {old cs : Array Value} {t : TypeId} {fr : Nat × Nat} (h : w.heap[b]? = some (.cells old t fr)) : w.setRow b cs = w.putObj b (.cells cs t fr) := by
  obtain ⟨hlt, hb⟩ := Array.getElem?_eq_some_iff.1 h
  unfold World.setRow World.putObj
  congr 1
  apply Array.ext_getElem?
  intro i
  rw [Array.getElem?_modify, Array.getElem?_setIfInBounds]
  by_cases e : b = i
  · subst e; simp [hlt, hb]
  · simp [e]
theorem tl_ (a : Array Value) : a.toList.length = a.size := Array.length_toList
theorem rep_rv {g : G} {z : List AV} {vs : List Value} (h : RVs g z vs) : ∀ n, RVs g (List.replicate n z).flatten (List.replicate n vs).flatten
  | 0 => .nil g
  | n + 1 => by rw [List.replicate_succ, List.replicate_succ, List.flatten_cons, List.flatten_cons]; exact h.append (rep_rv h n)
theorem rep_one {z : List AV} (h : ∀ a ∈ z, a.one = true) (n : Nat) : ∀ a ∈ (List.replicate n z).flatten, a.one = true := by
  intro a ha
  obtain ⟨l, hl, hal⟩ := List.mem_flatten.1 ha
  rw [List.eq_of_mem_replicate hl] at hal
  exact h a hal
theorem run_storeAt {t : TypeId} {n : Nat} (hn : szOf P t = some n) {v : Value} (hv : v.cells.size = n) (h1 : ∀ u ∈ v.cells.toList, u.oneCell' = true) {w : World} {b off : Nat} {c : Array Value} {t' : TypeId} (hb : w.heap[b]? = some (.cells c t' (0, 0))) (hfit : off + n ≤ c.size) :
    (Instr.storeAt t (.pointer (some ⟨b, off, none⟩)) v).run P w = .ok () (w.putObj b (.cells (over c.toList off v.cells.toList).toArray t' (0, 0))) := by
  have hl : v.cells.toList.length = n := by simpa using hv
  have hs := run_storeCells_at P b off t' v.cells.toList 0 c w hb (by simpa [hl] using hfit) h1
  rw [setRow_putObj hb] at hs
  simp only [Nat.add_zero] at hs
  rw [← over_eq _ _ _ (by rw [hl]; simpa using hfit)] at hs
  simp [Instr.storeAt, Instr.sureAddr, storeVar, run_sizeOf hn, hv, hs]

/-- A step that writes. -/
theorem OkAt.skip {o : Oper} {σ σ1 : St} (ht : σ1.t = σ.t) (hls : σ1.ls = σ.ls) (hds : σ1.ds = σ.ds)
    (h : ∀ g lb (act : Act) (w : World), Sat g σ.h w → Tm g lb σ.ls σ.t act.tmps → ∃ g' w', Sat g' σ1.h w' ∧ Ev g σ.h w g' σ1.h w' ∧ (execOp act.eval o).run P w = .ok .skip w') (hraw : ∀ (i b : Nat) (ob : Obj), σ.h[i]? = some (.raw b ob) → σ1.h[i]? = some (.raw b ob)) : OkAt P o .junk σ σ1 := by
  intro g0 h0 w0 g lb act w m T
  obtain ⟨g', w', h1, h2, h3⟩ := h g lb act w m.sat T
  exact ⟨undef, w', g', lb, .inr ⟨h3, rfl⟩, by rw [hls]; exact m.step h1 h2, by rw [hls]; exact ⟨h2.le, fun _ _ => rfl, fun _ h => h, hraw⟩, trivial, fun k off e => (by cases e), ht, hds⟩
/-- A step that hands back a value. -/
theorem OkAt.val {o : Oper} {y : AV} {σ σ1 : St} (ht : σ1.t = σ.t) (hls : σ1.ls = σ.ls) (hds : σ1.ds = σ.ds)
    (h : ∀ g lb (act : Act) (w : World), Sat g σ.h w → Tm g lb σ.ls σ.t act.tmps → ∃ g' w' v, Sat g' σ1.h w' ∧ Ev g σ.h w g' σ1.h w' ∧ RV g' y v ∧ (execOp act.eval o).run P w = .ok (.value v) w') (hraw : ∀ (i b : Nat) (ob : Obj), σ.h[i]? = some (.raw b ob) → σ1.h[i]? = some (.raw b ob)) : OkAt P o (.v y) σ σ1 := by
  intro g0 h0 w0 g lb act w m T
  obtain ⟨g', w', v, h1, h2, h3, h4⟩ := h g lb act w m.sat T
  exact ⟨v, w', g', lb, .inl h4, by rw [hls]; exact m.step h1 h2, by rw [hls]; exact ⟨h2.le, fun _ _ => rfl, fun _ h => h, hraw⟩, h3, fun k off e => (by cases e), ht, hds⟩
theorem get_set_raw {h : List AO} {id : Nat} {o o' : AO} (hid : h[id]? = some o) (hne : ∀ b ob, o ≠ .raw b ob) {i b : Nat} {ob : Obj} (hi : h[i]? = some (.raw b ob)) : (h.set id o')[i]? = some (.raw b ob) := by
  rw [List.getElem?_set]
  by_cases e : id = i
  · subst e; rw [hid] at hi; injection hi with hi; exact absurd hi (hne b ob)
  · simp [e, hi]

theorem flatten_over {α : Type} {sz : Nat} : ∀ {es : List (List α)}, (∀ e ∈ es, e.length = sz) → ∀ {i : Nat} {e : List α}, es[i]? = some e → ∀ (off : Nat) (cs : List α), off + cs.length ≤ e.length → (es.set i (over e off cs)).flatten = over es.flatten (i * sz + off) cs
  | [], _, i, e, h, _, _, _ => by simp at h
  | x :: es, hz, i, e, h, off, cs, hle => by
    have hx : x.length = sz := hz x (by simp)
    have hfl := flatten_len (es := es) (fun e he => hz e (List.mem_cons_of_mem _ he))
    cases i with
    | zero =>
      simp at h; subst h
      rw [over_eq _ _ _ hle, over_eq _ _ _ (by simp; omega)]
      simp only [List.set_cons_zero, List.flatten_cons, Nat.zero_mul, Nat.zero_add]
      rw [List.take_append_of_le_length (by omega), List.drop_append_of_le_length (by omega)]
      simp
    | succ i =>
      have ih := flatten_over (es := es) (fun e he => hz e (List.mem_cons_of_mem _ he)) (by simpa using h) off cs hle
      have hi : i < es.length := by have := (List.getElem?_eq_some_iff.1 h).1; simpa using this
      have he : e.length = sz := hz e (List.mem_of_getElem? h)
      have hb : i * sz + sz ≤ es.length * sz := by rw [← Nat.succ_mul]; exact Nat.mul_le_mul_right _ hi
      have e1 : (i + 1) * sz + off = x.length + (i * sz + off) := by rw [hx, Nat.succ_mul]; omega
      rw [List.set_cons_succ, List.flatten_cons, ih, List.flatten_cons, e1, over_eq _ _ _ (by omega), over_eq _ _ _ (by rw [List.length_append]; omega)]
      rw [List.take_length_add_append, Nat.add_assoc x.length, List.drop_length_add_append]
      simp
theorem over_app {α : Type} (l1 l2 : List α) (off : Nat) (cs : List α) (h : off + cs.length ≤ l1.length) : over (l1 ++ l2) off cs = over l1 off cs ++ l2 := by
  rw [over_eq _ _ _ (by rw [List.length_append]; omega), over_eq _ _ _ h, List.take_append_of_le_length (by omega), List.drop_append_of_le_length (by omega)]
  simp
theorem over_all {α : Type} {Q : α → Prop} : ∀ {as cs : List α}, (∀ a ∈ cs, Q a) → (∀ a ∈ as, Q a) → ∀ (off : Nat), ∀ a ∈ over cs off as, Q a
  | [], cs, h, _, off => h
  | x :: as, cs, h, k, off => over_all (as := as) (fun a ha => by
      rcases List.mem_or_eq_of_mem_set ha with h' | h'
      · exact h a h'
      · subst h'; exact k _ (by simp)) (fun a ha => k a (List.mem_cons_of_mem _ ha)) (off + 1)
theorem noz_one : ∀ {z : List AV}, (∀ a ∈ z, a.one = true) → ∀ a ∈ noz z, a.one = true
  | [], h => h
  | x :: z, h => by
    have ih := noz_one (z := z) fun a ha => h a (List.mem_cons_of_mem _ ha)
    have hx := h x (by simp)
    intro a ha
    cases x <;>
      (simp only [noz, List.mem_cons] at ha
       rcases ha with ha | ha
       · subst ha
         first | exact hx | rfl
       · exact ih a ha)
theorem set_lens {α : Type} {sz : Nat} {es : List (List α)} (hz : ∀ e ∈ es, e.length = sz) {i : Nat} {e : List α} (he : e.length = sz) : ∀ x ∈ es.set i e, x.length = sz := by
  intro x hx
  rcases List.mem_or_eq_of_mem_set hx with h | h
  · exact hz x h
  · subst h; exact he

theorem ok_st {o : Oper} {t : TypeId} {n : Nat} {x y : Operand} {ax ay : AX} (ho : o.op = .store t x y) (hn : szOf P t = some n) (h1 : cx x = some ax) (h2 : cx y = some ay) {σ σ1 : St} {z : TV} {d : Nat} (he : evo d (.st n ax ay) σ = some (z, σ1)) : OkAt P o z σ σ1 := by
  simp only [evo] at he
  split at he
  · rename_i yv hy
    split at he
    · rename_i cs hc
      obtain ⟨rfl, hcn, hone⟩ := cellsN_ok hc
      have val : ∀ {g lb} {act : Act}, Tm g lb σ.ls σ.t act.tmps → RVs g yv.cells (act.eval y).cells.toList ∧ (∀ u ∈ (act.eval y).cells.toList, u.oneCell' = true) ∧ (act.eval y).cells.size = n := by
        intro g lb act T
        obtain ⟨h3, h4⟩ := cells_rv (a_rv T h2 hy) hone
        exact ⟨h3, h4, by have := h3.1; have := tl_ (act.eval y).cells; omega⟩
      split at he
      · rename_i k off hq
        split at he
        · rename_i c0 hl
          split at he
          · rename_i hle
            cases he
            intro g0 h0 w0 g lb act w m T
            obtain ⟨h3, h4, h5⟩ := val T
            have hv := ax_rt T h1; rw [hq] at hv
            have hv : act.eval x = .pointer (some ⟨lb k, off, none⟩) := hv
            obtain ⟨c, t', h6, h7⟩ := m.lok.ok k c0 hl
            have hst := run_storeAt (P := P) hn h5 h4 h6 (off := off) (by have := h7.1; have := tl_ c; omega)
            obtain ⟨h8, h9⟩ := m.write hl (cs := over c0 off yv.cells) (c := (over c.toList off (act.eval y).cells.toList).toArray) t' (by simpa using RVs.over_ h3 h7 off)
            exact ⟨undef, _, g, lb, .inr ⟨exec_u (s := Instr.storeAt t (act.eval x) (act.eval y)) (by simp only [execOp, ho]) (by rw [hv]; exact hst), rfl⟩, h8, h9, trivial, fun k off e => (by cases e), rfl, rfl⟩
          · cases he
        · cases he
      · rename_i id off hq
        split at he
        · rename_i c0 hh
          split at he
          · rename_i hle
            cases he
            refine .skip rfl rfl rfl (fun g lb act w s T => ?_) (fun i b ob hi => get_set_raw hh (fun _ _ e => by cases e) hi)
            obtain ⟨h3, h4, h5⟩ := val T
            have hv := ax_rt T h1; rw [hq] at hv
            have hv : RV g (.ptr id off) (act.eval x) := hv
            generalize hgx : act.eval x = vx at hv
            cases hv with
            | ptr hb =>
              obtain ⟨b, c, t', h6, h7, h8⟩ := s.obj _ _ hh
              rw [hb] at h6; cases h6
              have hlt := (Array.getElem?_eq_some_iff.1 h7).1
              have hst := run_storeAt (P := P) hn h5 h4 h7 (off := off) (by have := h8.1; have := tl_ c; omega)
              obtain ⟨h9, h10⟩ := s.upd (g' := g) hh (.refl g) rfl rfl rfl (fun _ _ => rfl) (o' := .box (over c0 off yv.cells)) (Wd.putObj w _ (.cells (over c.toList off (act.eval y).cells.toList).toArray t' (0, 0)) (P := fun b' => OwnAt g id b' (.box c0)) hb)
                ⟨_, (over c.toList off (act.eval y).cells.toList).toArray, t', hb, World.putObj_heap_same hlt, by simpa using RVs.over_ h3 h8 off⟩ (fun b' h => .inl h) (fun _ _ _ e => by cases e)
              exact ⟨g, _, h9, h10, exec_u (s := Instr.storeAt t (act.eval x) (act.eval y)) (by simp only [execOp, ho]) (by rw [hgx]; exact hst)⟩
          · cases he
        · cases he
      · rename_i id ver sz i off hq
        split at he
        · rename_i v0 sz' es hh
          split at he
          · rename_i hvs
            obtain ⟨rfl, rfl⟩ := hvs
            split at he
            · rename_i e hes
              split at he
              · rename_i hle
                cases he
                refine .skip rfl rfl rfl (fun g lb act w s T => ?_) (fun i b ob hi => get_set_raw hh (fun _ _ e => by cases e) hi)
                obtain ⟨h3, h4, h5⟩ := val T
                have hv := ax_rt T h1; rw [hq] at hv
                obtain ⟨b, n0, c0, hd, hp⟩ := hv
                obtain ⟨c, t', l1, l2, h7, h8, h9, h10, h11, h12, hz, hl, hr, hoo⟩ := lst_cells s hh hd
                have hlt := (Array.getElem?_eq_some_iff.1 h7).1
                have hfl := flatten_len hz
                have he' : e.length = sz' := hz e (List.mem_of_getElem? hes)
                have hi : i < es.length := (List.getElem?_eq_some_iff.1 hes).1
                have hb : i * sz' + sz' ≤ es.length * sz' := by rw [← Nat.succ_mul]; exact Nat.mul_le_mul_right _ hi
                have hl1 : l1.length = es.length * sz' := by rw [← hr.1, hfl]
                have hcl : c.size = l1.length + l2.length := by have := congrArg List.length hl; simpa using this
                have hul : (act.eval y).cells.toList.length = n := by simpa using h5
                have hst := run_storeAt (P := P) hn h5 h4 h7 (off := i * sz' + off) (by omega)
                have hov : over c.toList (i * sz' + off) (act.eval y).cells.toList = over l1 (i * sz' + off) (act.eval y).cells.toList ++ l2 := by
                  rw [hl]; exact over_app _ _ _ _ (by omega)
                obtain ⟨h13, h14⟩ := s.upd (g' := g) hh (.refl g) rfl rfl rfl (fun _ _ => rfl) (o' := .lst v0 sz' (es.set i (over e off yv.cells))) (Wd.putObj w _ (.cells (over c.toList (i * sz' + off) (act.eval y).cells.toList).toArray t' (0, 0)) (P := fun b' => OwnAt g id b' (.lst v0 sz' es)) ⟨_, _, hd⟩)
                  (.inr ⟨b, c0, (over c.toList (i * sz' + off) (act.eval y).cells.toList).toArray, t', over l1 (i * sz' + off) (act.eval y).cells.toList, l2, by rw [hd, h12]; simp, World.putObj_heap_same hlt, by simp [over_len, h8], h9, by simpa using h10, by simpa using h11,
                    set_lens hz (by rw [over_len]; exact he'), by simpa using hov, by
                      rw [flatten_over hz hes off yv.cells (by omega)]
                      exact RVs.over_ h3 hr _, by
                      rw [flatten_over hz hes off yv.cells (by omega)]
                      exact over_all hoo (fun a ha => List.all_eq_true.1 hone a ha) _⟩) (fun b' h => .inl h) (fun ver sz es e v hv => by injection e with e1 _ _; subst e1; exact s.ver _ _ _ _ hh v hv)
                exact ⟨g, _, h13, h14, exec_u (s := Instr.storeAt t (act.eval x) (act.eval y)) (by simp only [execOp, ho]) (by rw [hp]; exact hst)⟩
              · cases he
            · cases he
          · cases he
        · cases he
      · cases he
    · cases he
  · cases he

/-! ### Maps that are made -/
theorem ok_mkm {o : Oper} {t : TypeId} (ho : o.op = .makeMap t none) {σ σ1 : St} {z : TV} {d : Nat} (he : evo d .mkm σ = some (z, σ1)) : OkAt P o z σ σ1 := by
  simp only [evo] at he
  cases he
  refine .val rfl rfl rfl (fun g lb act w s T => ?_) (fun i b ob hi => get_push hi)
  have hp := s.past σ.h.length (Nat.le_refl _)
  have hle := G.le_addBx (g := g) (i := σ.h.length) (b := w.heap.size) hp.1
  have hb : (g.addBx σ.h.length w.heap.size).bx σ.h.length = some w.heap.size := by simp [G.addBx]
  obtain ⟨h1, h2⟩ := s.push (g' := g.addBx σ.h.length w.heap.size) (o := .mapo []) hle rfl rfl (fun i hi => by simp [G.addBx, hi]) (fun _ _ => rfl) (Wd.alloc w (.map #[] 0) _)
    ⟨w.heap.size, #[], 0, hb, World.alloc_heap_new w _, rfl, fun i p e hp => by simp at hp, fun i p e hp => by simp at hp⟩
    (fun b h1 => by have h2 : (g.addBx σ.h.length w.heap.size).bx σ.h.length = some b := h1; rw [hb] at h2; injection h2 with e; omega) (fun ver sz es e => by cases e)
  exact ⟨_, _, .map (some w.heap.size), h1, h2, .mp hb, exec_v (s := Instr.makeMap t none) (by simp only [execOp, ho]; rfl) rfl⟩
theorem ok_ins {o : Oper} {t kt et : TypeId} {ik : IntKind} {m k v : Operand} {am ak av : AX} (ho : o.op = .insert t m k v ∨ o.op = .mapUpdate t m k v) (ht : P.underlying t = some (.map kt et)) (hk : P.underlying kt = some (.int ik)) (h1 : cx m = some am) (h2 : cx k = some ak) (h3 : cx v = some av)
    {σ σ1 : St} {z : TV} {d : Nat} (he : evo d (.ins am ak av) σ = some (z, σ1)) : OkAt P o z σ σ1 := by
  simp only [evo] at he
  split at he
  · rename_i id kk n y e1 e2 e3
    split at he
    · rename_i es hh
      split at he
      · rename_i hki
        split at he
        · rename_i hf
          cases he
          refine .skip rfl rfl rfl (fun g lb act w s T => ?_) (fun i b ob hi => get_set_raw hh (fun _ _ e => by cases e) hi)
          have hm := a_rv T h1 e1
          have hkk := a_rv T h2 e2
          have hy := a_rv T h3 e3
          generalize hgm : act.eval m = vm at hm
          generalize hgk : act.eval k = vk at hkk
          generalize hgv : act.eval v = vv at hy
          cases hkk
          cases hm with
          | mp hb =>
            obtain ⟨b, ms, ck, h6, h7, h8, h9, h10⟩ := s.obj _ _ hh
            rw [hb] at h6; cases h6
            have hlt := (Array.getElem?_eq_some_iff.1 h7).1
            have h11 := findNow_ok (ik := ik) 0 (ms := ms.toList) (by simpa using h8) (fun j p e hp he => h9 j p e hp (by simpa using he)) hki hf
            dsimp only at h11
            have hfk : (Instr.findKey kt (.int kk n) ms.toList).run P w = .ok none w := by simp [Instr.findKey, run_underlying hk, h11]
            have get : ∀ {i : Nat} {p : AV × AV} {e : MapEntry}, (es ++ [(AV.int kk n, y)])[i]? = some p → (ms.push { key := .int kk n, val := vv, born := ck })[i]? = some e → (es[i]? = some p ∧ ms[i]? = some e) ∨ (p = (AV.int kk n, y) ∧ e = { key := .int kk n, val := vv, born := ck }) := by
              intro i p e hp he
              rcases Nat.lt_trichotomy i es.length with hi | hi | hi
              · rw [List.getElem?_append_left hi] at hp
                rw [Array.getElem?_push, if_neg (by omega)] at he
                exact .inl ⟨hp, he⟩
              · subst hi
                rw [h8, Array.getElem?_push, if_pos rfl] at he
                simp at hp he
                exact .inr ⟨hp.symm, he.symm⟩
              · rw [List.getElem?_eq_none (by simp; omega)] at hp; cases hp
            obtain ⟨h12, h13⟩ := s.upd (g' := g) hh (.refl g) rfl rfl rfl (fun _ _ => rfl) (o' := .mapo (es ++ [(.int kk n, y)])) (Wd.putObj w _ (.map (ms.push { key := .int kk n, val := vv, born := ck }) (ck + 1)) (P := fun b' => OwnAt g id b' (.mapo es)) hb)
              ⟨_, ms.push { key := .int kk n, val := vv, born := ck }, ck + 1, hb, World.putObj_heap_same hlt, by simp [h8],
                fun i p e hp he => by
                  rcases get hp he with ⟨h, h'⟩ | ⟨rfl, rfl⟩
                  · exact h9 i p e h h'
                  · exact .int _ _,
                fun i p e hp he => by
                  rcases get hp he with ⟨h, h'⟩ | ⟨rfl, rfl⟩
                  · exact h10 i p e h h'
                  · exact hy⟩ (fun b' h => .inl h) (fun _ _ _ e => by cases e)
            refine ⟨g, _, h12, h13, exec_u (s := Instr.mapUpdate t (act.eval m) (act.eval k) (act.eval v)) (by rcases ho with ho | ho <;> simp only [execOp, ho]) ?_⟩
            rw [hgm, hgk, hgv]
            simp [Instr.mapUpdate, run_underlying ht, getMap h7, run_checkKey hk, hfk, setObj, Sem.run, h7, World.putObj]
        · cases he
      · cases he
    · cases he
  · cases he

/-! ### Slices that are made -/
theorem flat_repl {α : Type} [Inhabited α] (z : Array α) (n : Nat) (h : 0 < z.size) : ((Array.range (n * z.size)).map (z[· % z.size]!)).toList = (List.replicate n z.toList).flatten := by
  apply List.ext_getElem?
  intro i
  have hlen : (List.replicate n z.toList).flatten.length = n * z.size := by simp
  by_cases hi : i < n * z.size
  · have hm : i % z.size < z.size := Nat.mod_lt _ h
    have hd : i / z.size < n := by rw [Nat.div_lt_iff_lt_mul h]; exact hi
    have h1 : (List.replicate n z.toList)[i / z.size]? = some z.toList := by simp [hd]
    have h2 : z.toList[i % z.size]? = some z[i % z.size] := by simp [hm]
    have h3 := flatten_at (sz := z.size) (es := List.replicate n z.toList) (fun e he => by rw [List.eq_of_mem_replicate he]; simp) h1 h2
    rw [Nat.mul_comm, Nat.div_add_mod] at h3
    rw [h3]
    simp [hi, hm]
  · rw [List.getElem?_eq_none (by simp; omega), List.getElem?_eq_none (by rw [hlen]; omega)]
theorem fillE_ok {σ : St} {act : Act} {g : G} {lb : Nat → Nat} (T : Tm g lb σ.ls σ.t act.tmps) {sz : Nat} (hsz : 0 < sz) : ∀ {ps : List (Nat × Operand)} {l : List (Nat × AX)}, mapO (fun p => match cx p.2 with
        | some x => some (p.1, x)
        | none => none) ps = some l → ∀ {z es : List (List AV)} {zc : Array Value}, RVs g z.flatten zc.toList → (∀ e ∈ z, e.length = sz) → fillE σ sz z l = some es →
    ∃ cells, Instr.fill (fun i => some (i * sz, sz)) zc (ps.map fun p => (p.1, act.eval p.2)) = some cells ∧ RVs g es.flatten cells.toList ∧ (∀ e ∈ es, e.length = sz) ∧ es.length = z.length ∧ ((∀ a ∈ z.flatten, a.one = true) → ∀ a ∈ es.flatten, a.one = true)
  | [], l, h, z, es, zc, hz, hl, hf => by simp [mapO] at h; subst h; simp only [fillE] at hf; cases hf; exact ⟨zc, rfl, hz, hl, rfl, fun h => h⟩
  | (i, x) :: ps, l, h, z, es, zc, hz, hl, hf => by
    simp only [mapO] at h
    cases hx : cx x with
    | none => simp only [hx] at h; cases h
    | some ax =>
      simp only [hx] at h
      cases hr : mapO (fun p : Nat × Operand => match cx p.2 with
        | some x => some (p.1, x)
        | none => none) ps with
      | none => rw [hr] at h; cases h
      | some r =>
        rw [hr] at h
        cases h
        simp only [fillE] at hf
        cases ha : σ.a ax with
        | none => simp only [ha] at hf; cases hf
        | some a =>
          simp only [ha] at hf
          cases hc : a.cellsN sz with
          | none => simp only [hc] at hf; cases hf
          | some c1 =>
            simp only [hc] at hf
            split at hf
            · rename_i hlt
              obtain ⟨rfl, h1, h2⟩ := cellsN_ok hc
              obtain ⟨h3, _⟩ := cells_rv (a_rv T hx ha) h2
              have hs : (act.eval x).cells.size = sz := by have h6 := h3.1; rw [h1, Array.length_toList] at h6; exact h6.symm
              have hzl := flatten_len hl
              have hz2 : zc.size = z.length * sz := by have h6 := hz.1; have h7 : zc.toList.length = zc.size := Array.length_toList; omega
              have hb : i * sz + sz ≤ z.length * sz := by rw [← Nat.succ_mul]; exact Nat.mul_le_mul_right _ hlt
              obtain ⟨e, he⟩ : ∃ e, z[i]? = some e := ⟨z[i], by simp [hlt]⟩
              have hel : e.length = sz := hl e (List.mem_of_getElem? he)
              have hfo : (z.set i a.cells).flatten = over z.flatten (i * sz) a.cells := by
                have := flatten_over hl he 0 a.cells (by omega)
                rw [Nat.add_zero] at this
                rw [← this]
                congr 2
                rw [over_eq _ _ _ (by omega)]
                simp [h1, ← hel]
              obtain ⟨cells, h4, h5, h6, h7, h8⟩ := fillE_ok T hsz hr (z := z.set i a.cells) (zc := (over zc.toList (i * sz) (act.eval x).cells.toList).toArray) (by rw [hfo]; simpa using RVs.over_ h3 hz (i * sz)) (set_lens hl h1) hf
              refine ⟨cells, ?_, h5, h6, by rw [h7]; simp, fun hzo => h8 (by rw [hfo]; exact over_all hzo (fun a ha => List.all_eq_true.1 h2 a ha) _)⟩
              rw [List.map_cons, fill_step (off := i * sz) (size := sz) (hp := rfl) (hs := hs) (hf := by omega)]
              exact h4
            · cases hf
theorem esz_ok {t : TypeId} {sz : Nat} (h : esz P t = some sz) : ∃ e i z, P.underlying t = some (.slice e) ∧ elemOfSlice P t = some e ∧ P.info? e = some i ∧ i.zero = some z ∧ z.cells.size = sz ∧ i.size = sz ∧ 0 < sz ∧ i.bytes ≤ 65536 := by
  unfold esz at h
  split at h
  · rename_i e he
    split at h
    · rename_i i hi
      split at h
      · rename_i z hz
        split at h
        · rename_i h1
          split at h
          · rename_i h2
            split at h
            · rename_i h3
              cases h
              refine ⟨e, i, z, ?_, he, hi, hz, h1, rfl, h2, h3⟩
              unfold elemOfSlice at he
              split at he
              · cases he; assumption
              · cases he
            · cases h
          · cases h
        · cases h
      · cases h
    · cases h
  · cases h
theorem bsl_run {o : Oper} {t e : TypeId} {n sz : Nat} {ps : Array (Nat × Operand)} {z : List AV} {l : List (Nat × AX)} (ho : o.op = .buildSlice t n ps) (hs : esz P t = some sz) (hel : elemOfSlice P t = some e) (hz : zeroAV P e = some z)
    (hl : mapO (fun p => match cx p.2 with
        | some x => some (p.1, x)
        | none => none) ps.toList = some l) (hn : n ≠ 0) {σ : St} {es : List (List AV)} (hf : fillE σ sz (List.replicate n (noz z)) l = some es) (hc : (noz z).length = sz ∧ 0 < sz ∧ n ≤ 1024 ∧ sz ≤ 1024)
    {g : G} {lb : Nat → Nat} {act : Act} (w : World) (T : Tm g lb σ.ls σ.t act.tmps) :
    ∃ cells, (execOp act.eval o).run P w = .ok (.value (.slice (some ⟨w.heap.size, 0, none⟩) n n)) (w.alloc (.cells cells e)) ∧ RVs g es.flatten cells.toList ∧ (∀ e ∈ es, e.length = sz) ∧ es.length = n ∧ (∀ a ∈ es.flatten, a.one = true) := by
  obtain ⟨e', i, zv, hu, he', hi, hzv, hzs, his, hpos, _⟩ := esz_ok hs
  rw [hel] at he'; cases he'
  obtain ⟨i', v', hi', hv', hr, hzone⟩ := zeroAV_ok hz
  rw [hi] at hi'; cases hi'
  rw [hzv] at hv'; cases hv'
  obtain ⟨hc1, hc2, hc3, hc4⟩ := hc
  have hmul : n * sz ≤ 1024 * 1024 := Nat.mul_le_mul hc3 hc4
  have hnp : 0 < n * sz := Nat.mul_pos (by omega) hc2
  have hrep : RVs g (List.replicate n (noz z)).flatten ((Array.range (n * sz)).map (zv.cells[· % zv.cells.size]!)).toList := by
    have e1 := flat_repl zv.cells n (by omega)
    rw [hzs] at e1
    rw [hzs, e1]
    exact rep_rv (noz_rv (hr g)) n
  obtain ⟨cells, h4, h5, h6, h7, h8⟩ := fillE_ok T hc2 hl (z := List.replicate n (noz z)) hrep (fun e he => by rw [List.eq_of_mem_replicate he]; exact hc1) hf
  refine ⟨cells, exec_v (s := Instr.buildSlice t n (ps.map fun (i, x) => (i, act.eval x))) (by simp only [execOp, ho]) (run_buildSlice w t e n _ cells i zv hu hi hzv (by rw [his]; omega) (by rw [his]; omega) ?_), h5, h6, by rw [h7]; simp, h8 (rep_one (noz_one hzone) n)⟩
  rw [his, Array.toList_map]
  exact h4
theorem ok_bsl {o : Oper} {t e : TypeId} {n sz : Nat} {ps : Array (Nat × Operand)} {z : List AV} {l : List (Nat × AX)} (ho : o.op = .buildSlice t n ps) (hs : esz P t = some sz) (hel : elemOfSlice P t = some e) (hz : zeroAV P e = some z)
    (hl : mapO (fun p => match cx p.2 with
        | some x => some (p.1, x)
        | none => none) ps.toList = some l) (hn : n ≠ 0) {σ σ1 : St} {x : TV} {d : Nat} (he : evo d (.bsl sz n z l) σ = some (x, σ1)) : OkAt P o x σ σ1 := by
  simp only [evo] at he
  split at he
  · rename_i es hf
    split at he
    · rename_i hc
      cases he
      refine .val rfl rfl rfl (fun g lb act w s T => ?_) (fun i b ob hi => hi)
      obtain ⟨cells, h1, h2, h3, h4, hoo⟩ := bsl_run ho hs hel hz hl hn hf hc w T
      obtain ⟨h5, h6⟩ := s.freeze cells e
      refine ⟨_, _, _, h5, h6, ?_, h1⟩
      refine .sl (fun k => (cells[k]?).getD undef) h4 (by have := hc.2.2.1; unfold maxN; omega) (Nat.le_refl _) h3 hoo (fun k a ha => ?_) (fun k a ha => ?_)
      · obtain ⟨v, hv, _⟩ := h2.at ha
        have hv : cells[k]? = some v := by simpa using hv
        simp [G.addFz, hv]
      · obtain ⟨v, hv, hr⟩ := h2.at ha
        have hv : cells[k]? = some v := by simpa using hv
        rw [hv]
        exact hr.mono h6.le
    · cases he
  · cases he
/-- A new list of one's own, in a new row. -/
theorem Sat.pushLst {g : G} {h : List AO} {w w1 : World} (s : Sat g h w) {sz cap : Nat} {es : List (List AV)} {c : Array Value} {l1 l2 : List Value} (t : TypeId) (hw : Wd w w1 fun _ => False) (hb : w1.heap[w.heap.size]? = some (.cells c t (0, 0))) (hc : c.size = cap * sz) (hpos : 0 < sz) (hle : es.length ≤ cap) (hmax : es.length ≤ maxN)
    (hz : ∀ e ∈ es, e.length = sz) (hl : c.toList = l1 ++ l2) (hr : RVs g es.flatten l1) (hoo : ∀ a ∈ es.flatten, a.one = true) :
    let g' := g.addHd h.length 0 (some ⟨w.heap.size, 0, none⟩, es.length, cap)
    Sat g' (h ++ [.lst 0 sz es]) w1 ∧ Ev g h w g' (h ++ [.lst 0 sz es]) w1 ∧ RV g' (.ol h.length 0) (.slice (some ⟨w.heap.size, 0, none⟩) es.length cap) := by
  intro g'
  have hp := s.past h.length (Nat.le_refl _)
  have hle' : g.Le g' := G.le_addHd (hp.2 0)
  have hh : g'.hd h.length 0 = some (some ⟨w.heap.size, 0, none⟩, es.length, cap) := by simp [g', G.addHd]
  have := s.push (g' := g') (o := .lst 0 sz es) (w' := w1) hle' rfl rfl (fun _ _ => rfl) (fun i hi => by funext v; simp [g', G.addHd, hi]) hw
    (.inr ⟨w.heap.size, cap, c, t, l1, l2, hh, hb, hc, hpos, hle, hmax, hz, hl, hr.mono hle', hoo⟩)
    (fun b ⟨n, c, hb⟩ => by rw [hh] at hb; injection hb with hb; injection hb with hb _; injection hb with hb; injection hb with hb; omega) (fun ver sz' es e v hv => by injection e with e1 _ _; subst e1; simp [g', G.addHd]; rw [if_neg (by omega)]; exact hp.2 v)
  exact ⟨this.1, this.2, .ol hh⟩
theorem ok_bslO {o : Oper} {t e : TypeId} {n sz : Nat} {ps : Array (Nat × Operand)} {z : List AV} {l : List (Nat × AX)} (ho : o.op = .buildSlice t n ps) (hs : esz P t = some sz) (hel : elemOfSlice P t = some e) (hz : zeroAV P e = some z)
    (hl : mapO (fun p => match cx p.2 with
        | some x => some (p.1, x)
        | none => none) ps.toList = some l) (hn : n ≠ 0) {σ σ1 : St} {x : TV} {d : Nat} (he : evo d (.bslO sz n z l) σ = some (x, σ1)) : OkAt P o x σ σ1 := by
  simp only [evo] at he
  split at he
  · rename_i es hf
    split at he
    · rename_i hc
      cases he
      refine .val rfl rfl rfl (fun g lb act w s T => ?_) (fun i b ob hi => get_push hi)
      obtain ⟨cells, h1, h2, h3, h4, hoo⟩ := bsl_run ho hs hel hz hl hn hf hc w T
      have hfl := flatten_len h3
      have hcs : cells.size = n * sz := by have h6 := h2.1; have h7 : cells.toList.length = cells.size := Array.length_toList; rw [h4] at hfl; omega
      obtain ⟨h5, h6, h7⟩ := s.pushLst (es := es) (cap := n) (sz := sz) (c := cells) (l1 := cells.toList) (l2 := []) e (Wd.alloc w (.cells cells e) _) (World.alloc_heap_new w _) hcs hc.2.1 (by omega) (by have := hc.2.2.1; unfold maxN; omega) h3 (by simp) h2 hoo
      rw [h4] at h5 h6 h7
      exact ⟨_, _, _, h5, h6, h7, h1⟩
    · cases he
  · cases he
theorem sameX_eq {l c : Operand} (h : sameX l c = true) (a : Act) : a.eval c = a.eval l := by
  unfold sameX at h
  split at h
  · simp at h; subst h; rfl
  · simp at h; obtain ⟨rfl, rfl⟩ := h; rfl
  · cases h
theorem ok_mks {o : Oper} {t e : TypeId} {sz : Nat} {l c : Operand} {al : AX} {z : List AV} (ho : o.op = .makeSlice t l c) (hlc : sameX l c = true) (hs : esz P t = some sz) (hel : elemOfSlice P t = some e) (hx : cx l = some al) (hz : zeroAV P e = some z)
    {σ σ1 : St} {x : TV} {d : Nat} (he : evo d (.mks sz z al) σ = some (x, σ1)) : OkAt P o x σ σ1 := by
  simp only [evo] at he
  split at he
  · rename_i k n e1
    split at he
    · rename_i hc
      obtain ⟨hc1, hc2, hc3, hc4, hc5⟩ := hc
      cases he
      obtain ⟨e', i, zv, hu, he', hi, hzv, hzs, his, hpos, hby⟩ := esz_ok hs
      rw [hel] at he'; cases he'
      obtain ⟨i', v', hi', hv', hr, hzone⟩ := zeroAV_ok hz
      rw [hi] at hi'; cases hi'
      rw [hzv] at hv'; cases hv'
      refine .val rfl rfl rfl (fun g lb act w s T => ?_) (fun i b ob hi => get_push hi)
      have hlv := a_rv T hx e1
      generalize hgl : act.eval l = lv at hlv
      cases hlv
      have hcv := sameX_eq hlc act
      rw [hgl] at hcv
      have hby' : (i.bytes : Int) * n ≤ 281474976710656 := by
        have h1 : (i.bytes : Int) * n ≤ 65536 * 1073741824 := Int.mul_le_mul (by omega) hc2 hc1 (by omega)
        omega
      have hrun := run_make (P := P) w t e i zv hu hi hzv k k n n hc1 (Int.le_refl _) hby' (by omega)
      rw [his] at hrun
      have hrep : RVs g (List.replicate n.toNat (noz z)).flatten (madeCells zv.cells (n.toNat * sz)).toList := by
        have e1 := flat_repl zv.cells n.toNat (by omega)
        rw [hzs] at e1
        unfold madeCells
        rw [hzs, e1]
        exact rep_rv (noz_rv (hr g)) n.toNat
      obtain ⟨h5, h6, h7⟩ := s.pushLst (es := List.replicate n.toNat (noz z)) (cap := n.toNat) (sz := sz) (c := madeCells zv.cells (n.toNat * sz)) (l1 := (madeCells zv.cells (n.toNat * sz)).toList) (l2 := []) e (Wd.alloc w (.cells (madeCells zv.cells (n.toNat * sz)) e) _) (World.alloc_heap_new w _)
        (size_madeCells _ _) hc4 (by simp) (by simp [maxN]; omega) (fun e he => by rw [List.eq_of_mem_replicate he]; exact hc3) (by simp) hrep (rep_one (noz_one hzone) n.toNat)
      rw [List.length_replicate] at h5 h6 h7
      exact ⟨_, _, _, h5, h6, h7, exec_v (s := Instr.makeSlice t (act.eval l) (act.eval c)) (by simp only [execOp, ho]) (by rw [hgl, hcv]; exact hrun)⟩
    · cases he
  · cases he
theorem ok_mkz {o : Oper} {t e : TypeId} {sz : Nat} {l c : Operand} {al : AX} {z : List AV} (ho : o.op = .makeSlice t l c) (hlc : sameX l c = true) (hs : esz P t = some sz) (hel : elemOfSlice P t = some e) (hx : cx l = some al) (hz : zeroAV P e = some z)
    {σ σ1 : St} {x : TV} {d : Nat} (he : evo d (.mkz sz z al) σ = some (x, σ1)) : OkAt P o x σ σ1 := by
  simp only [evo] at he
  split at he
  · rename_i k n e1
    split at he
    · rename_i hc
      obtain ⟨hc1, hc2, hc3, hc4, hc5⟩ := hc
      cases he
      obtain ⟨e', i, zv, hu, he', hi, hzv, hzs, his, hpos, hby⟩ := esz_ok hs
      rw [hel] at he'; cases he'
      obtain ⟨i', v', hi', hv', hr, hzone⟩ := zeroAV_ok hz
      rw [hi] at hi'; cases hi'
      rw [hzv] at hv'; cases hv'
      refine .val rfl rfl rfl (fun g lb act w s T => ?_) (fun i b ob hi => hi)
      have hlv := a_rv T hx e1
      generalize hgl : act.eval l = lv at hlv
      cases hlv
      have hcv := sameX_eq hlc act
      rw [hgl] at hcv
      have hby' : (i.bytes : Int) * n ≤ 281474976710656 := by
        have h1 : (i.bytes : Int) * n ≤ 65536 * 1073741824 := Int.mul_le_mul (by omega) hc2 hc1 (by omega)
        omega
      have hrun := run_make (P := P) w t e i zv hu hi hzv k k n n hc1 (Int.le_refl _) hby' (by omega)
      rw [his] at hrun
      have hrep : RVs g (List.replicate n.toNat (noz z)).flatten (madeCells zv.cells (n.toNat * sz)).toList := by
        have e1 := flat_repl zv.cells n.toNat (by omega)
        rw [hzs] at e1
        unfold madeCells
        rw [hzs, e1]
        exact rep_rv (noz_rv (hr g)) n.toNat
      have hsz : (madeCells zv.cells (n.toNat * sz)).toList.length = (madeCells zv.cells (n.toNat * sz)).size := Array.length_toList
      obtain ⟨h5, h6⟩ := s.freeze (madeCells zv.cells (n.toNat * sz)) e
      refine ⟨_, _, _, h5, h6, ?_, exec_v (s := Instr.makeSlice t (act.eval l) (act.eval c)) (by simp only [execOp, ho]) (by rw [hgl, hcv]; exact hrun)⟩
      refine .sl (sz := sz) (fun k => ((madeCells zv.cells (n.toNat * sz))[k]?).getD undef) (by simp) (by unfold maxN; omega) (Nat.le_refl _) (fun e he => by rw [List.eq_of_mem_replicate he]; exact hc3) (rep_one (noz_one hzone) n.toNat) (fun k a ha => ?_) (fun k a ha => ?_)
      · obtain ⟨v, hv, _⟩ := hrep.at ha
        have hv : (madeCells zv.cells (n.toNat * sz))[k]? = some v := by simpa using hv
        simp [G.addFz, hv]
      · obtain ⟨v, hv, hr⟩ := hrep.at ha
        have hv : (madeCells zv.cells (n.toNat * sz))[k]? = some v := by simpa using hv
        rw [hv]
        exact hr.mono h6.le
    · cases he
  · cases he
end Go.Ab
