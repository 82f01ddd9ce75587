/- Part J: append, and slices of slices. Conditions: none. -/
import Derived.Test.YtnkblnmcabfbmaaAbsI
set_option linter.unusedVariables false
set_option linter.unusedSimpArgs false
namespace Go.Ab
open Go.RowKit

variable {P : Program}

theorem cell_heap {w w' : World} (h : w'.heap = w.heap) (a : Addr) : w'.cell? a = w.cell? a := by simp [World.cell?, h]
/-- The cells of whatever is appended. -/
theorem first_ok {g : G} {h : List AO} {w : World} (s : Sat g h w) {σ : St} (hσ : σ.h = h) {b : AV} {fs : List (List AV)} (he : elems σ b = some fs) {v : Value} (hr : RV g b v) {sz : Nat} (hz : ∀ e ∈ fs, e.length = sz) :
    ∃ A c news, v = .slice A fs.length c ∧ RVs g fs.flatten news ∧ (∀ w', w'.heap = w.heap → (Builtin.firstCells sz fs.length v).run P w' = .ok news.toArray w') ∧ (∀ u ∈ news, u.oneCell' = true) ∧ (∀ a ∈ fs.flatten, a.one = true) := by
  have one : ∀ {news : List Value}, RVs g fs.flatten news → ∀ u ∈ news, (∀ a ∈ fs.flatten, a.one = true) → u.oneCell' = true := by
    intro news hn u hu ha
    obtain ⟨i, hi⟩ := List.getElem?_of_mem hu
    have hl : i < fs.flatten.length := by rw [hn.1]; exact (List.getElem?_eq_some_iff.1 hi).1
    exact (hn.2 i _ u (by simp [hl]) hi).oneCell (ha _ (List.getElem_mem hl))
  have nil : fs = [] → ∀ {A c}, v = .slice A 0 c → ∃ A c news, v = .slice A fs.length c ∧ RVs g fs.flatten news ∧ (∀ w', w'.heap = w.heap → (Builtin.firstCells sz fs.length v).run P w' = .ok news.toArray w') ∧ (∀ u ∈ news, u.oneCell' = true) ∧ (∀ a ∈ fs.flatten, a.one = true) := by
    intro hf A c hv
    subst hf
    refine ⟨A, c, [], hv, .nil g, fun w' _ => ?_, fun u hu => by simp at hu, fun a ha => by simp at ha⟩
    subst hv
    cases A <;> simp [Builtin.firstCells, loadCells, loadCellsFrom]
  have full : ∀ {ad : Addr} {c : Nat} {news : List Value}, v = .slice (some ad) fs.length c → RVs g fs.flatten news → (∀ a ∈ fs.flatten, a.one = true) → (∀ (j : Nat) (u : Value), news[j]? = some u → w.cell? (ad.add j) = some u) →
      ∃ A c news, v = .slice A fs.length c ∧ RVs g fs.flatten news ∧ (∀ w', w'.heap = w.heap → (Builtin.firstCells sz fs.length v).run P w' = .ok news.toArray w') ∧ (∀ u ∈ news, u.oneCell' = true) ∧ (∀ a ∈ fs.flatten, a.one = true) := by
    intro ad c news hv hn hoo hc
    refine ⟨_, c, news, hv, hn, fun w' hw => ?_, fun u hu => one hn u hu hoo, hoo⟩
    subst hv
    have hl : news.length = fs.length * sz := by rw [← hn.1, flatten_len hz]
    have := run_loadCells_list (P := P) w' ad news (fun j u hj => by rw [cell_heap hw]; exact hc j u hj)
    rw [hl] at this
    simpa [Builtin.firstCells] using this
  unfold elems at he
  split at he
  · cases he
    cases hr with
    | sl0 A c => exact nil rfl rfl
    | sl f hl hn hnc hz' hoo hf hr =>
      rename_i bb o n c sz'
      subst hl
      refine full (news := (List.range fs.flatten.length).map f) rfl ⟨by simp, fun i a u ha hu => ?_⟩ hoo (fun j u hj => ?_)
      · have hi : i < fs.flatten.length := (List.getElem?_eq_some_iff.1 ha).1
        rw [List.getElem?_map, List.getElem?_range hi] at hu
        simp at hu; subst hu; exact hr i a ha
      · rw [List.getElem?_map] at hj
        by_cases hl : j < fs.flatten.length
        · rw [List.getElem?_range hl] at hj
          simp at hj; subst hj
          obtain ⟨c', t', fr, h7, h8⟩ := s.fz _ _ _ (hf j fs.flatten[j] (by simp [hl]))
          rw [Addr.add_lit, cell_of_block h7]; exact h8
        · rw [List.getElem?_eq_none (by simpa using hl)] at hj; cases hj
  · cases he
    cases hr
    exact nil rfl rfl
  · rename_i id ver
    split at he
    · rename_i v0 sz' es hh
      split at he
      · rename_i hv0
        subst hv0
        cases he
        rw [hσ] at hh
        cases hr with
        | ol hd =>
          rename_i A n c
          rcases s.obj _ _ hh with ⟨h3, h4⟩ | ⟨b', cap, c', t, l1, l2, h1, h2, h3, h4, h5, h6, h7, h8, h9⟩
          · subst h3; rw [hd] at h4; cases h4; exact nil rfl rfl
          · rw [hd] at h1; cases h1
            refine full rfl h9.1 h9.2 (fun j u hj => ?_)
            rw [Addr.add_lit, cell_of_block h2, Nat.zero_add]
            have : c'.toList[j]? = some u := by rw [h8, List.getElem?_append_left (List.getElem?_eq_some_iff.1 hj).1]; exact hj
            simpa using this
      · cases he
    · cases he
  · cases he

theorem append_in {t e ty : TypeId} {i : TypeInfo} (ht : P.underlying t = some (.slice e)) (hi : P.info? e = some i) {w : World} {b n cap m : Nat} {cur : Array Value} {t' : TypeId} (hb : w.heap[b]? = some (.cells cur t' (0, 0))) {A : Option Addr} {c : Nat} {news : List Value}
    (hf : (Builtin.firstCells i.size m (.slice A m c)).run P w = .ok news.toArray w) (h1 : ∀ u ∈ news, u.oneCell' = true) (hroom : n + m ≤ cap) (hfit : n * i.size + news.length ≤ cur.size) :
    (Builtin.append_ #[t, t] ty #[.slice (some ⟨b, 0, none⟩) n cap, .slice A m c]).run P w = .ok (.slice (some ⟨b, 0, none⟩) (n + m) cap) (w.putObj b (.cells (over cur.toList (n * i.size) news).toArray t' (0, 0))) := by
  have hst := run_storeCells_at P b (n * i.size) t' news 0 cur w hb (by simpa using hfit) h1
  rw [setRow_putObj hb] at hst
  simp only [Nat.add_zero] at hst
  rw [← over_eq _ _ _ (by simpa using hfit)] at hst
  simp [Builtin.append_, run_underlying ht, sizeOf, typeInfo, hi, Builtin.lenOf, hroom, hf, Addr.add_lit, hst]
theorem append_nil_in {t e ty : TypeId} {i : TypeInfo} (ht : P.underlying t = some (.slice e)) (hi : P.info? e = some i) {w : World} {A : Option Addr} {c : Nat} {news : List Value}
    (hf : (Builtin.firstCells i.size 0 (.slice A 0 c)).run P w = .ok news.toArray w) :
    (Builtin.append_ #[t, t] ty #[.slice none 0 0, .slice A 0 c]).run P w = .ok (.slice none 0 0) w := by
  simp [Builtin.append_, run_underlying ht, sizeOf, typeInfo, hi, Builtin.lenOf, hf]
theorem append_out {t e ty : TypeId} {i : TypeInfo} {z : Value} (ht : P.underlying t = some (.slice e)) (hi : P.info? e = some i) (hz : i.zero = some z) {w : World} {n cap m : Nat} {B A : Option Addr} {c : Nat} {olds news : List Value}
    (hfo : (Builtin.firstCells i.size n (.slice B n cap)).run P w.drew = .ok olds.toArray w.drew) (hf : (Builtin.firstCells i.size m (.slice A m c)).run P w.drew = .ok news.toArray w.drew)
    (hg : cap < n + m) (h63 : ((n + m : Nat) : Int) ≤ 9223372036854775807) (hfit : Builtin.nextslicecap (n + m) cap * i.bytes ≤ 281474976710656) :
    (Builtin.append_ #[t, t] ty #[.slice B n cap, .slice A m c]).run P w = .ok (.slice (some ⟨w.heap.size, 0, none⟩) (n + m) (grownCap w (n + m) cap e))
      (w.drew.alloc (.cells (olds.toArray ++ news.toArray ++ Builtin.zeroCells z.cells (grownCap w (n + m) cap e - (n + m))) e)) := by
  have hn : ¬ (n + m ≤ cap) := by omega
  have h63' : ¬ (9223372036854775807 < ((n : Int) + (m : Int))) := by omega
  have h48' : ¬ (281474976710656 < Builtin.nextslicecap (n + m) cap * i.bytes) := by omega
  simp [Builtin.append_, run_underlying ht, sizeOf, typeInfo, zeroValue, hi, hz, Builtin.lenOf, hn, h63', h48', Question.forced, hf, hfo, newRow, grownCap]
  congr 2
  apply Array.ext'
  simp [List.append_assoc]

theorem ok_app {o : Oper} {t : TypeId} {sz : Nat} {x y : Operand} {ax ay : AX} (ho : o.op = .call { callee := .builtin .append, args := #[x, y], argTypes := #[t, t] }) (hs : esz P t = some sz) (h1 : cx x = some ax) (h2 : cx y = some ay) {σ σ1 : St} {z : TV} {d : Nat}
    (he : evo d (.app sz ax ay) σ = some (z, σ1)) : OkAt P o z σ σ1 := by
  obtain ⟨e, i, zv, hu, _, hi, hzv, hzs, his, hpos, hby⟩ := esz_ok hs
  simp only [evo] at he
  split at he
  · rename_i id ver b e1 e2
    split at he
    · rename_i v0 sz' es fs hh hfs
      split at he
      · rename_i hc
        obtain ⟨rfl, rfl, _, _, hmax, hlen⟩ := hc
        cases he
        refine .val rfl rfl rfl (fun g lb act w s T => ?_) (fun i b ob hi => get_set_raw hh (fun _ _ e => by cases e) hi)
        have hx := a_rv T h1 e1
        have hy := a_rv T h2 e2
        generalize hgx : act.eval x = vx at hx
        generalize hgy : act.eval y = vy at hy
        obtain ⟨A, c, news, hvy, hrn, hfn, hones, hoo⟩ := first_ok (P := P) s rfl hfs hy hlen
        subst hvy
        have hfl := flatten_len hlen
        have hnl : news.length = fs.length * sz' := by rw [← hrn.1, hfl]
        have hver := s.ver _ _ _ _ hh
        cases hx with
        | ol hd =>
          rename_i B n cap
          -- what the new version says
          have fin : ∀ {w' : World} {B' : Option Addr} {cap' : Nat}, Wd w w' (fun b' => OwnAt g id b' (.lst v0 sz' es)) → (∀ b', B' = some ⟨b', 0, none⟩ → OwnAt g id b' (.lst v0 sz' es) ∨ w.heap.size ≤ b') →
              (∀ g', g.Le g' → g'.hd id (v0 + 1) = some (B', es.length + fs.length, cap') → ObjOk g' w' id (.lst (v0 + 1) sz' (es ++ fs))) →
              (Builtin.append_ #[t, t] o.type #[.slice B n cap, .slice A fs.length c]).run P w = .ok (.slice B' (es.length + fs.length) cap') w' →
              ∃ g' w' v, Sat g' (σ.h.set id (.lst (v0 + 1) sz' (es ++ fs))) w' ∧ Ev g σ.h w g' (σ.h.set id (.lst (v0 + 1) sz' (es ++ fs))) w' ∧ RV g' (.ol id (v0 + 1)) v ∧ (execOp act.eval o).run P w = .ok (.value v) w' := by
            intro w' B' cap' hw hB hok hrun
            have hle : g.Le (g.addHd id (v0 + 1) (B', es.length + fs.length, cap')) := G.le_addHd (hver _ (Nat.lt_succ_self _))
            have hh' : (g.addHd id (v0 + 1) (B', es.length + fs.length, cap')).hd id (v0 + 1) = some (B', es.length + fs.length, cap') := by simp [G.addHd]
            obtain ⟨h5, h6⟩ := s.upd hh hle rfl rfl rfl (fun i hi => by funext v; simp [G.addHd, hi]) hw (hok _ hle hh') (fun b' ⟨n', c', hb'⟩ => by
              rw [hh'] at hb'; injection hb' with hb'; injection hb' with hb' _; exact hB b' hb') (fun ver sz es2 e v hv => by
              injection e with e1 _ _; subst e1
              have : (g.addHd id (v0 + 1) (B', es.length + fs.length, cap')).hd id v = g.hd id v := by simp [G.addHd]; intro h; omega
              rw [this]; exact hver v (by omega))
            refine ⟨_, w', _, h5, h6, .ol hh', ?_⟩
            simp [execOp, ho, resolve, invoke, builtin, hgx, hgy, hrun]
          have hsum : es.length + fs.length ≤ 1073741824 := hmax
          have hbytes : (es.length + fs.length) * i.bytes ≤ 140737488355328 := by
            have : (es.length + fs.length) * i.bytes ≤ 1073741824 * 65536 := Nat.mul_le_mul hsum hby
            omega
          have grow : ∀ {olds : List Value}, cap < n + fs.length → n = es.length → (∀ e ∈ es, e.length = sz') → RVs g es.flatten olds → (∀ a ∈ es.flatten, a.one = true) → (Builtin.firstCells sz' n (.slice B n cap)).run P w.drew = .ok olds.toArray w.drew →
              ∃ g' w' v, Sat g' (σ.h.set id (.lst (v0 + 1) sz' (es ++ fs))) w' ∧ Ev g σ.h w g' (σ.h.set id (.lst (v0 + 1) sz' (es ++ fs))) w' ∧ RV g' (.ol id (v0 + 1)) v ∧ (execOp act.eval o).run P w = .ok (.value v) w' := by
            intro olds hcap hn hz hro hoe hfo
            subst hn
            have hge := grownCap_ge w (es.length + fs.length) cap e
            have hrun := append_out (P := P) (ty := o.type) hu hi hzv (w := w) (by rw [his]; exact hfo) (by rw [his]; exact hfn w.drew rfl) hcap (by omega) (growslice_fits hcap hbytes)
            have hol : olds.length = es.length * sz' := by rw [← hro.1, flatten_len hz]
            refine fin (w' := w.drew.alloc (.cells (olds.toArray ++ news.toArray ++ Builtin.zeroCells zv.cells (grownCap w (es.length + fs.length) cap e - (es.length + fs.length))) e)) ((Wd.drew w _).trans (Wd.alloc _ _ _)) (fun b' hb' => .inr (by injection hb' with hb'; injection hb' with hb'; omega)) (fun g' hg hh' => ?_) hrun
            refine .inr ⟨w.heap.size, grownCap w (es.length + fs.length) cap e, _, e, olds ++ news, (Builtin.zeroCells zv.cells (grownCap w (es.length + fs.length) cap e - (es.length + fs.length))).toList, by rw [hh', List.length_append], World.alloc_heap_new w.drew _, ?_, hpos, by rw [List.length_append]; exact hge, by rw [List.length_append]; unfold maxN; omega,
              fun x hx => by
                rcases List.mem_append.1 hx with h | h
                · exact hz x h
                · exact hlen x h, by simp, by rw [List.flatten_append]; exact (hro.mono hg).append (hrn.mono hg), by
                  rw [List.flatten_append]; intro a ha
                  rcases List.mem_append.1 ha with h | h
                  · exact hoe a h
                  · exact hoo a h⟩
            simp only [Array.size_append, List.size_toArray, size_zeroCells, hzs, hol, hnl, ← Nat.add_mul]
            congr 1
            omega
          rcases s.obj _ _ hh with ⟨h3, h4⟩ | ⟨b', cap', c', t', l1, l2, h3, h4, h5, h6, h7, h8, h9, h10, h11, hoe⟩
          · subst h3
            rw [hd] at h4; cases h4
            by_cases hf0 : fs.length = 0
            · have hfs0 : fs = [] := List.eq_nil_of_length_eq_zero hf0
              subst hfs0
              refine fin (w' := w) (B' := none) (cap' := 0) (.refl w _) (fun b' h => by cases h) (fun g' hg hh' => .inl ⟨rfl, by simpa using hh'⟩) ?_
              exact append_nil_in (P := P) hu hi (by rw [his]; exact hfn w rfl)
            · exact grow (olds := []) (by omega) rfl (fun e he => by simp at he) (.nil g) (fun a ha => by simp at ha) (by simp [Builtin.firstCells])
          · rw [hd] at h3; cases h3
            have hfo : ∀ w', w'.heap = w.heap → (Builtin.firstCells sz' es.length (.slice (some ⟨b', 0, none⟩) es.length cap)).run P w' = .ok l1.toArray w' := by
              intro w' hw
              have hl : l1.length = es.length * sz' := by rw [← h11.1, flatten_len h9]
              have := run_loadCells_list (P := P) w' ⟨b', 0, none⟩ l1 (fun j u hj => by
                rw [cell_heap hw, Addr.add_lit, cell_of_block h4, Nat.zero_add]
                have : c'.toList[j]? = some u := by rw [h10, List.getElem?_append_left (List.getElem?_eq_some_iff.1 hj).1]; exact hj
                simpa using this)
              rw [hl] at this
              simpa [Builtin.firstCells] using this
            by_cases hroom : es.length + fs.length ≤ cap
            · have hl1 : l1.length = es.length * sz' := by rw [← h11.1, flatten_len h9]
              have hcl : c'.size = l1.length + l2.length := by have := congrArg List.length h10; simpa using this
              have hmul : (es.length + fs.length) * sz' ≤ cap * sz' := Nat.mul_le_mul_right _ hroom
              rw [Nat.add_mul] at hmul
              have hlt := (Array.getElem?_eq_some_iff.1 h4).1
              · have hrun := append_in (P := P) (ty := o.type) hu hi h4 (by rw [his]; exact hfn w rfl) hones hroom (by rw [his, hnl]; omega)
                rw [his] at hrun
                have hov : over c'.toList (es.length * sz') news = (l1 ++ news) ++ l2.drop news.length := by
                  rw [h10, over_eq _ _ _ (by simp; omega), ← hl1, List.take_left', List.drop_length_add_append]
                  rfl
                refine fin (w' := w.putObj b' (.cells (over c'.toList (es.length * sz') news).toArray t' (0, 0))) (Wd.putObj w b' _ ⟨_, _, hd⟩) (fun b'' hb => .inl (by injection hb with hb; injection hb with hb; subst hb; exact ⟨_, _, hd⟩)) (fun g' hg hh' => ?_) hrun
                refine .inr ⟨b', cap, _, t', l1 ++ news, l2.drop news.length, by rw [hh', List.length_append], World.putObj_heap_same hlt, by simp [over_len, h5], hpos, by rw [List.length_append]; exact hroom, by rw [List.length_append]; unfold maxN; omega,
                  fun x hx => by
                    rcases List.mem_append.1 hx with h | h
                    · exact h9 x h
                    · exact hlen x h, by simpa using hov, by rw [List.flatten_append]; exact (h11.mono hg).append (hrn.mono hg), by
                  rw [List.flatten_append]; intro a ha
                  rcases List.mem_append.1 ha with h | h
                  · exact hoe a h
                  · exact hoo a h⟩
            · exact grow (olds := l1) (by omega) rfl h9 h11 hoe (hfo _ rfl)
      · cases he
    · cases he
  · cases he
end Go.Ab
