/- Part H: values put together, and new variables. Conditions: none. -/
import Derived.Test.YtnkblnmcabfbmaaAbsG
set_option linter.unusedVariables false
set_option linter.unusedSimpArgs false
namespace Go.Ab
open Go.RowKit

variable {P : Program}

/-! ### Cells over others -/
theorem over_len {α : Type} : ∀ (as cs : List α) (off : Nat), (over cs off as).length = cs.length
  | [], cs, off => rfl
  | a :: as, cs, off => by simp only [over]; rw [over_len as]; simp
theorem seg_step {α : Type} (l : List α) (k : Nat) (v : α) (rest : List α) (hk : k + (rest.length + 1) ≤ l.length) :
    (l.set k v).take (k + 1) ++ rest ++ (l.set k v).drop (k + 1 + rest.length) = l.take k ++ (v :: rest) ++ l.drop (k + (rest.length + 1)) := by
  have h1 : (l.set k v).take (k + 1) = l.take k ++ [v] := by
    rw [List.take_add_one, List.take_set_of_le (Nat.le_refl _)]
    simp [show k < l.length by omega]
  have h2 : (l.set k v).drop (k + 1 + rest.length) = l.drop (k + (rest.length + 1)) := by
    rw [List.drop_set_of_lt (by omega)]
    congr 1
    omega
  rw [h1, h2]
  simp
theorem over_eq {α : Type} : ∀ (as cs : List α) (off : Nat), off + as.length ≤ cs.length → over cs off as = cs.take off ++ as ++ cs.drop (off + as.length)
  | [], cs, off, _ => by simp [over]
  | a :: as, cs, off, h => by
    simp only [over]
    rw [over_eq as (cs.set off a) (off + 1) (by simp at h ⊢; omega)]
    exact seg_step cs off a as (by simpa using h)
theorem RVs.over_ {g : G} : ∀ {as : List AV} {us : List Value}, RVs g as us → ∀ {cs : List AV} {vs : List Value}, RVs g cs vs → ∀ (off : Nat), RVs g (over cs off as) (over vs off us)
  | [], us, h, cs, vs, k, off => by rw [h.inv_nil]; exact k
  | a :: as, us, h, cs, vs, k, off => by
    obtain ⟨u, us', rfl, h1, h2⟩ := h.inv
    exact RVs.over_ h2 (k.set off h1) (off + 1)
theorem foldl_over : ∀ (l : List Value) (k off : Nat) (cells : Array Value), ((l.zipIdx k).foldl (fun (cs : Array Value) (x : Value × Nat) => cs.setIfInBounds (off + x.2) x.1) cells).toList = over cells.toList (off + k) l
  | [], k, off, cells => rfl
  | v :: l, k, off, cells => by
    rw [List.zipIdx_cons, List.foldl_cons, foldl_over l (k + 1) off]
    simp [over, Nat.add_assoc]
theorem fill_step (place : Nat → Option (Nat × Nat)) (cells : Array Value) (i off size : Nat) (v : Value) (rest : List (Nat × Value)) (hp : place i = some (off, size)) (hs : v.cells.size = size) (hf : off + size ≤ cells.size) :
    Instr.fill place cells ((i, v) :: rest) = Instr.fill place (over cells.toList off v.cells.toList).toArray rest := by
  have h1 : ¬ (cells.size < off + v.cells.size) := by omega
  have e : Array.foldl (fun (cs : Array Value) (x : Value × Nat) => cs.setIfInBounds (off + x.2) x.1) cells v.cells.zipIdx = (over cells.toList off v.cells.toList).toArray := by
    apply Array.ext'
    rw [← Array.foldl_toList, Array.toList_zipIdx, foldl_over]
    simp
  simp only [Instr.fill, hp]
  rw [if_neg (by simp [hs]; omega)]
  exact congrArg (fun x => Instr.fill place x rest) e

theorem cellsN_ok {sz : Nat} {a : AV} {cs : List AV} (h : a.cellsN sz = some cs) : cs = a.cells ∧ a.cells.length = sz ∧ a.cells.all AV.one = true := by
  unfold AV.cellsN at h
  split at h
  · split at h
    · cases h; exact ⟨rfl, ‹_›, ‹_›⟩
    · cases h
  · cases h
theorem cells_rv {g : G} {a : AV} {v : Value} (h : RV g a v) (h1 : a.cells.all AV.one = true) : RVs g a.cells v.cells.toList ∧ ∀ u ∈ v.cells.toList, u.oneCell' = true := by
  have single : a.cells = [a] → RVs g a.cells v.cells.toList ∧ ∀ u ∈ v.cells.toList, u.oneCell' = true := by
    intro e
    rw [e] at h1
    have ho := h.oneCell (by simpa using h1)
    have hc : v.cells = #[v] := by cases v <;> first | rfl | cases ho
    rw [e, hc]
    exact ⟨.cons h (.nil g), fun u hu => by simp at hu; subst hu; exact ho⟩
  cases a <;> first
    | exact single rfl
    | (rename_i cs
       cases h with
       | agg hl hh =>
         rename_i vs
         have hr := RV.agg_iff.1 (.agg hl hh)
         refine ⟨hr, fun u hu => ?_⟩
         obtain ⟨i, hi⟩ := List.getElem?_of_mem hu
         have hi2 : i < cs.length := by have := (List.getElem?_eq_some_iff.1 hi).1; have := hr.1; simp [Value.cells] at *; omega
         exact (hr.2 i cs[i] u (by simp [hi2]) hi).oneCell (List.all_eq_true.1 h1 _ (List.getElem_mem hi2)))

/-! ### Zero values -/
theorem zcell_ok {v : Value} {t : TypeId} {a : AV} (h : zcell P v t = some a) (g : G) : RV g a v := by
  unfold zcell at h
  split at h
  · split at h
    · rename_i e _
      cases hs : szOf P e with
      | none => rw [hs] at h; cases h
      | some n => rw [hs] at h; cases h; exact .nils _
    · cases h
  · exact const1_ok h g
theorem zcell_one {v : Value} {t : TypeId} {a : AV} (h : zcell P v t = some a) : a.one = true := by
  unfold zcell at h
  split at h
  · split at h
    · rename_i e _
      cases hs : szOf P e with
      | none => rw [hs] at h; cases h
      | some n => rw [hs] at h; cases h; rfl
    · cases h
  · exact const1_one h
theorem zeroAV_ok {t : TypeId} {z : List AV} (h : zeroAV P t = some z) : ∃ i v, P.info? t = some i ∧ i.zero = some v ∧ (∀ g, RVs g z v.cells.toList) ∧ (∀ a ∈ z, a.one = true) := by
  unfold zeroAV at h
  split at h
  · rename_i i hi
    split at h
    · rename_i v hv
      split at h
      · rename_i ts _
        obtain ⟨h1, h2⟩ := zipO_spec h
        refine ⟨i, v, hi, hv, fun g => ⟨h1, fun k a u ha hu => ?_⟩, fun a ha => ?_⟩
        · obtain ⟨b, hb⟩ := h2 k u a hu ha
          exact zcell_ok hb g
        · obtain ⟨k, hk⟩ := List.getElem?_of_mem ha
          have hl : k < v.cells.toList.length := by rw [← h1]; exact (List.getElem?_eq_some_iff.1 hk).1
          obtain ⟨b, hb⟩ := h2 k v.cells.toList[k] a (by simp at hl; simp [hl]) hk
          exact zcell_one hb
      · cases h
    · cases h
  · cases h
theorem noz_rv {g : G} : ∀ {z : List AV} {vs : List Value}, RVs g z vs → RVs g (noz z) vs
  | [], vs, h => h
  | a :: z, vs, h => by
    obtain ⟨v, vs', rfl, h1, h2⟩ := h.inv
    cases a <;> first
      | exact .cons h1 (noz_rv h2)
      | (cases h1; exact .cons (.sl0 _ _) (noz_rv h2))
theorem noz_len : ∀ (z : List AV), (noz z).length = z.length
  | [] => rfl
  | a :: z => by cases a <;> simp [noz, noz_len z]

theorem Sat.raw {g g' : G} {h h' : List AO} : (∀ (i : Nat) (o : AO), h[i]? = some o → h'[i]? = some o) → ∀ (i b : Nat) (o : Obj), h[i]? = some (.raw b o) → h'[i]? = some (.raw b o) := fun k i b o hi => k i _ hi
theorem get_push {h : List AO} {o : AO} {i : Nat} {x : AO} (hx : h[i]? = some x) : (h ++ [o])[i]? = some x := by
  rw [List.getElem?_append_left (List.getElem?_eq_some_iff.1 hx).1]; exact hx

/-- A nil list of one's own. -/
theorem Sat.pushNil {g : G} {h : List AO} {w : World} (s : Sat g h w) (sz : Nat) :
    Sat (g.addHd h.length 0 (none, 0, 0)) (h ++ [.lst 0 sz []]) w ∧ Ev g h w (g.addHd h.length 0 (none, 0, 0)) (h ++ [.lst 0 sz []]) w ∧ RV (g.addHd h.length 0 (none, 0, 0)) (.ol h.length 0) (.slice none 0 0) := by
  have hp := s.past h.length (Nat.le_refl _)
  have hle := G.le_addHd (g := g) (i := h.length) (v := 0) (x := (none, 0, 0)) (hp.2 0)
  have hh : (g.addHd h.length 0 (none, 0, 0)).hd h.length 0 = some (none, 0, 0) := by simp [G.addHd]
  have := s.push (g' := g.addHd h.length 0 (none, 0, 0)) (o := .lst 0 sz []) (w' := w) hle rfl rfl (fun _ _ => rfl) (fun i hi => by funext v; simp [G.addHd, hi]) (.refl w _) (.inl ⟨rfl, hh⟩)
    (fun b ⟨n, c, hb⟩ => by rw [hh] at hb; cases hb) (fun ver sz' es e v hv => by injection e with e1 _ _; subst e1; simp [G.addHd]; rw [if_neg (by omega)]; exact hp.2 v)
  exact ⟨this.1, this.2, .ol hh⟩
theorem ownz_ok {w : World} : ∀ {z : List AV} {h h' : List AO} {cs : List AV} {g : G} {vs : List Value}, Sat g h w → RVs g z vs → ownz z h = (cs, h') →
    ∃ g', Sat g' h' w ∧ Ev g h w g' h' w ∧ RVs g' cs vs ∧ (∀ (i : Nat) (o : AO), h[i]? = some o → h'[i]? = some o)
  | [], h, h', cs, g, vs, s, hr, e => by simp only [ownz] at e; cases e; exact ⟨g, s, .refl _ _ _, hr, fun _ _ h => h⟩
  | a :: z, h, h', cs, g, vs, s, hr, e => by
    obtain ⟨v, vs', rfl, h1, h2⟩ := hr.inv
    have plain : (∀ sz, a ≠ .nils sz) → ∃ g', Sat g' h' w ∧ Ev g h w g' h' w ∧ RVs g' cs (v :: vs') ∧ (∀ (i : Nat) (o : AO), h[i]? = some o → h'[i]? = some o) := by
      intro hne
      have e' : ownz (a :: z) h = (a :: (ownz z h).1, (ownz z h).2) := by
        cases a <;> first | rfl | (exfalso; exact hne _ rfl)
      rw [e'] at e
      cases e
      obtain ⟨g', h3, h4, h5, h6⟩ := ownz_ok s h2 (show ownz z h = ((ownz z h).1, (ownz z h).2) from rfl)
      exact ⟨g', h3, h4, .cons (h1.mono h4.le) h5, h6⟩
    cases a <;> first
      | (refine plain (fun sz e => ?_); cases e; done)
      | skip
    rename_i sz
    simp only [ownz] at e
    cases e
    cases h1
    obtain ⟨h3, h4, h5⟩ := s.pushNil sz
    obtain ⟨g', h6, h7, h8, h9⟩ := ownz_ok h3 (h2.mono h4.le) (show ownz z (h ++ [.lst 0 sz []]) = ((ownz z (h ++ [.lst 0 sz []])).1, (ownz z (h ++ [.lst 0 sz []])).2) from rfl)
    exact ⟨g', h6, h4.trans h7, .cons (h5.mono h7.le) h8, fun i o hi => h9 i o (get_push hi)⟩

/-! ### Fields and elements filled in -/
theorem fills_ok {σ : St} {act : Act} {g : G} {lb : Nat → Nat} (T : Tm g lb σ.ls σ.t act.tmps) {places : List (Nat × Nat)} : ∀ {ps : List (Nat × Operand)} {l : List (Nat × Nat × AX)}, partsS places ps = some l → ∀ {z cs : List AV} {zc : Array Value}, RVs g z zc.toList → fills σ z l = some cs →
    ∃ cells, Instr.fill (places.toArray[·]?) zc (ps.map fun p => (p.1, act.eval p.2)) = some cells ∧ RVs g cs cells.toList
  | [], l, h, z, cs, zc, hz, hf => by simp [partsS, mapO] at h; subst h; simp only [fills] at hf; cases hf; exact ⟨zc, rfl, hz⟩
  | (i, x) :: ps, l, h, z, cs, zc, hz, hf => by
    unfold partsS at h
    simp only [mapO] at h
    cases hp : places[i]? with
    | none => simp only [hp] at h; cases h
    | some q =>
      obtain ⟨off, sz⟩ := q
      simp only [hp] at h
      cases hx : cx x with
      | none => simp only [hx] at h; cases h
      | some ax =>
        simp only [hx] at h
        cases hr : partsS places ps with
        | none => unfold partsS at hr; simp only [hr] at h; cases h
        | some r =>
          have hr' := hr
          unfold partsS at hr'
          simp only [hr'] at h
          cases h
          simp only [fills] at hf
          cases ha : σ.a ax with
          | none => simp only [ha] at hf; cases hf
          | some a =>
            simp only [ha] at hf
            cases hc : a.cellsN sz with
            | none => simp only [hc] at hf; cases hf
            | some c1 =>
              simp only [hc] at hf
              split at hf
              · rename_i hle
                obtain ⟨rfl, h1, h2⟩ := cellsN_ok hc
                obtain ⟨h3, _⟩ := cells_rv (a_rv T hx ha) h2
                obtain ⟨cells, h4, h5⟩ := fills_ok T hr (zc := (over zc.toList off (act.eval x).cells.toList).toArray) (by simpa using RVs.over_ h3 hz off) hf
                have hs : (act.eval x).cells.size = sz := by have h6 := h3.1; rw [h1, Array.length_toList] at h6; exact h6.symm
                have hfit : off + sz ≤ zc.size := by have h6 := hz.1; have h7 : zc.toList.length = zc.size := Array.length_toList; omega
                refine ⟨cells, ?_, h5⟩
                rw [List.map_cons, fill_step (off := off) (size := sz) (hp := by simpa using hp) (hs := hs) (hf := hfit)]
                exact h4
              · cases hf
theorem mapO_mapM {α β : Type} (f : α → Option β) : ∀ (l : List α), l.mapM f = mapO f l
  | [] => rfl
  | a :: l => by
    simp only [List.mapM_cons, mapO, Option.bind_eq_bind, Option.pure_def]
    cases hf : f a with
    | none => simp
    | some b =>
      rw [mapO_mapM f l]
      cases mapO f l <;> simp
theorem ok_bld_run {o : Oper} {t : TypeId} {ps : Array (Nat × Operand)} {fs : Array Field} {z : List AV} {places : List (Nat × Nat)} {l : List (Nat × Nat × AX)} (ho : o.op = .build t ps) (hu : P.underlying t = some (.struct fs)) (hz : zeroAV P t = some z)
    (hp : mapO (fun f => (P.info? f.type).map fun i => (f.offset, i.size)) fs.toList = some places) (hl : partsS places ps.toList = some l) {σ : St} {act : Act} {g : G} {lb : Nat → Nat} (T : Tm g lb σ.ls σ.t act.tmps)
    {z' cs : List AV} (hzz : ∀ vs, RVs g z vs → RVs g z' vs) (hf : fills σ z' l = some cs) (w : World) : ∃ cells, (execOp act.eval o).run P w = .ok (.value (.agg cells)) w ∧ RVs g cs cells.toList := by
  obtain ⟨i, v, h1, h2, h3, _⟩ := zeroAV_ok hz
  obtain ⟨cells, h4, h5⟩ := fills_ok T hl (zc := v.cells) (hzz _ (h3 g)) hf
  refine ⟨cells, exec_v (s := Instr.build t (ps.map fun (i, x) => (i, act.eval x))) (by simp only [execOp, ho]) (run_build w t _ cells ?_), h5⟩
  unfold Program.built
  rw [h1, hu]
  dsimp only
  rw [h2, mapO_mapM, hp]
  dsimp only
  rw [Array.toList_map]
  exact h4
theorem ok_bld {o : Oper} {t : TypeId} {ps : Array (Nat × Operand)} {fs : Array Field} {z : List AV} {places : List (Nat × Nat)} {l : List (Nat × Nat × AX)} (ho : o.op = .build t ps) (hu : P.underlying t = some (.struct fs)) (hz : zeroAV P t = some z)
    (hp : mapO (fun f => (P.info? f.type).map fun i => (f.offset, i.size)) fs.toList = some places) (hl : partsS places ps.toList = some l) {σ σ1 : St} {x : TV} {d : Nat} (he : evo d (.bld z l) σ = some (x, σ1)) : OkAt P o x σ σ1 := by
  simp only [evo] at he
  split at he
  · rename_i cs hf
    cases he
    refine ok_val fun g0 h0 w0 g lb act w m T => ?_
    obtain ⟨cells, h1, h2⟩ := ok_bld_run ho hu hz hp hl T (fun vs h => noz_rv h) hf w
    exact ⟨_, h1, RV.agg_iff.2 h2⟩
  · cases he

/-- A step that adds to what is known, memory standing still. -/
theorem OkAt.ghost {o : Oper} {x : TV} {σ σ1 : St} (ht : σ1.t = σ.t) (hls : σ1.ls = σ.ls) (hds : σ1.ds = σ.ds)
    (h : ∀ g (w : World), Sat g σ.h w → ∃ g', Sat g' σ1.h w ∧ Ev g σ.h w g' σ1.h w ∧ (∀ (i : Nat) (o : AO), σ.h[i]? = some o → σ1.h[i]? = some o) ∧
      ∀ lb (act : Act), Tm g' lb σ.ls σ.t act.tmps → ∃ v, (execOp act.eval o).run P w = .ok (.value v) w ∧ RT g' lb x v ∧ (∀ k off, x = .lp k off → look k σ.ls ≠ none)) : OkAt P o x σ σ1 := by
  intro g0 h0 w0 g lb act w m T
  obtain ⟨g', h1, h2, h3, h4⟩ := h g w m.sat
  have e : Ee g lb σ.ls σ.h g' lb σ.ls σ1.h := ⟨h2.le, fun _ _ => rfl, fun _ h => h, fun i b o hi => h3 i _ hi⟩
  obtain ⟨v, h5, h6, h7⟩ := h4 lb act (T.mono e)
  exact ⟨v, w, g', lb, .inl h5, by rw [hls]; exact m.step h1 h2, by rw [hls]; exact e, h6, by rw [hls]; exact h7, ht, hds⟩
theorem ok_mvO {o : Oper} {x : Operand} {sz : Nat} (ho : o.op = .move x ∨ o.op = .assign x) (hx : isNilSlice x = true) {σ σ1 : St} {y : TV} {d : Nat} (he : evo d (.mvO sz) σ = some (y, σ1)) : OkAt P o y σ σ1 := by
  simp only [evo] at he
  cases he
  refine .ghost rfl rfl rfl fun g w s => ?_
  obtain ⟨h1, h2, h3⟩ := s.pushNil sz
  refine ⟨_, h1, h2, fun i o hi => get_push hi, fun lb act T => ⟨.slice none 0 0, ?_, h3, fun k off e => by cases e⟩⟩
  have : act.eval x = .slice none 0 0 := by
    unfold isNilSlice at hx
    split at hx
    · rfl
    · cases hx
  rcases ho with ho | ho <;> simp [execOp, ho, this]
theorem ok_bldO {o : Oper} {t : TypeId} {ps : Array (Nat × Operand)} {fs : Array Field} {z : List AV} {places : List (Nat × Nat)} {l : List (Nat × Nat × AX)} (ho : o.op = .build t ps) (hu : P.underlying t = some (.struct fs)) (hz : zeroAV P t = some z)
    (hp : mapO (fun f => (P.info? f.type).map fun i => (f.offset, i.size)) fs.toList = some places) (hl : partsS places ps.toList = some l) {σ σ1 : St} {x : TV} {d : Nat} (he : evo d (.bldO z l) σ = some (x, σ1)) : OkAt P o x σ σ1 := by
  simp only [evo] at he
  generalize hoz : ownz z σ.h = q at he
  obtain ⟨cs, h'⟩ := q
  dsimp only at he
  split at he
  · rename_i cs' hf
    cases he
    obtain ⟨i, v, h1, h2, h3, _⟩ := zeroAV_ok hz
    refine .ghost rfl rfl rfl fun g w s => ?_
    obtain ⟨g', h4, h5, h6, h7⟩ := ownz_ok s (h3 g) hoz
    refine ⟨g', h4, h5, h7, fun lb act T => ?_⟩
    obtain ⟨cells, h8, h9⟩ := fills_ok T hl (zc := v.cells) h6 hf
    refine ⟨.agg cells, exec_v (s := Instr.build t (ps.map fun (i, x) => (i, act.eval x))) (by simp only [execOp, ho]) (run_build w t _ cells ?_), RV.agg_iff.2 h9, fun k off e => by cases e⟩
    unfold Program.built
    rw [h1, hu]
    dsimp only
    rw [h2, mapO_mapM, hp]
    dsimp only
    rw [Array.toList_map]
    exact h8
  · cases he

/-! ### New variables -/
theorem run_alloc_ {t : TypeId} {i : TypeInfo} {v : Value} (hi : P.info? t = some i) (hv : i.zero = some v) (w : World) :
    (Instr.alloc t true (.tuple #[])).run P w = .ok (.pointer (some ⟨w.heap.size, 0, none⟩)) (w.alloc (.cells v.cells t)) := by
  simp [Instr.alloc, zeroValue, typeInfo, hi, hv, newVar, newRow]
theorem run_box_ (t : TypeId) (v : Value) (w : World) : (Instr.box t v).run P w = .ok (.pointer (some ⟨w.heap.size, 0, none⟩)) (w.alloc (.cells v.cells t)) := by
  simp [Instr.box, newVar, newRow]
theorem OkAt.new {o : Oper} {σ : St} {d : Nat} {cs : List AV} {h' : List AO} (hd : look d σ.ls = none) (h : ∀ g lb (act : Act) (w : World), Sat g σ.h w → Tm g lb σ.ls σ.t act.tmps → ∃ g' c t, Sat g' h' w ∧ Ev g σ.h w g' h' w ∧ (∀ (i : Nat) (o : AO), σ.h[i]? = some o → h'[i]? = some o) ∧
    RVs g' cs c.toList ∧ (execOp act.eval o).run P w = .ok (.value (.pointer (some ⟨w.heap.size, 0, none⟩))) (w.alloc (.cells c t))) :
    OkAt P o (.lp d 0) σ { σ with ls := (d, cs) :: σ.ls, h := h' } := by
  intro g0 h0 w0 g lb act w m T
  obtain ⟨g', c, t, h1, h2, h3, h4, h5⟩ := h g lb act w m.sat T
  have m1 := m.step h1 h2
  obtain ⟨h6, h7⟩ := m1.local_ hd t h4
  refine ⟨_, _, g', _, .inl h5, h6, ⟨h2.le, h7.lb, h7.ls, fun i b o hi => h3 i _ hi⟩, ?_, fun k off e => ?_, rfl, rfl⟩
  · show Value.pointer (some ⟨w.heap.size, 0, none⟩) = .pointer (some ⟨if d = d then w.heap.size else lb d, 0, none⟩)
    rw [if_pos rfl]
  · injection e with e1 _; subst e1; simp [look]
theorem ok_alc {o : Oper} {t : TypeId} {z : List AV} (ho : o.op = .alloc t) (hz : zeroAV P t = some z) {σ σ1 : St} {x : TV} {d : Nat} (he : evo d (.alc z) σ = some (x, σ1)) : OkAt P o x σ σ1 := by
  simp only [evo] at he
  split at he
  · rename_i hd
    cases he
    obtain ⟨i, v, h1, h2, h3, _⟩ := zeroAV_ok hz
    exact OkAt.new hd fun g lb act w s T => ⟨g, v.cells, t, s, .refl _ _ _, fun _ _ h => h, noz_rv (h3 g), exec_v (s := Instr.alloc t true (.tuple #[])) (by simp only [execOp, ho]) (run_alloc_ h1 h2 w)⟩
  · cases he
theorem ok_alcO {o : Oper} {t : TypeId} {z : List AV} (ho : o.op = .alloc t) (hz : zeroAV P t = some z) {σ σ1 : St} {x : TV} {d : Nat} (he : evo d (.alcO z) σ = some (x, σ1)) : OkAt P o x σ σ1 := by
  simp only [evo] at he
  split at he
  · rename_i hd
    generalize hoz : ownz z σ.h = q at he
    obtain ⟨cs, h'⟩ := q
    dsimp only at he
    cases he
    obtain ⟨i, v, h1, h2, h3, _⟩ := zeroAV_ok hz
    refine OkAt.new hd fun g lb act w s T => ?_
    obtain ⟨g', h4, h5, h6, h7⟩ := ownz_ok s (h3 g) hoz
    exact ⟨g', v.cells, t, h4, h5, h7, h6, exec_v (s := Instr.alloc t true (.tuple #[])) (by simp only [execOp, ho]) (run_alloc_ h1 h2 w)⟩
  · cases he
theorem ok_bx {o : Oper} {t : TypeId} {x : Operand} {ax : AX} (ho : o.op = .box t x) (h1 : cx x = some ax) {σ σ1 : St} {y : TV} {d : Nat} (he : evo d (.bx ax) σ = some (y, σ1)) : OkAt P o y σ σ1 := by
  simp only [evo] at he
  split at he
  · rename_i hd
    split at he
    · rename_i a ha
      split at he
      · rename_i cs hc
        cases he
        obtain ⟨rfl, _, h3⟩ := cellsN_ok hc
        exact OkAt.new hd fun g lb act w s T => ⟨g, (act.eval x).cells, t, s, .refl _ _ _, fun _ _ h => h, (cells_rv (a_rv T h1 ha) h3).1, exec_v (s := Instr.box t (act.eval x)) (by simp only [execOp, ho]) (run_box_ t _ w)⟩
      · cases he
    · cases he
  · cases he
/-- A new box in the abstract heap. -/
theorem Sat.pushBox {g : G} {h : List AO} {w : World} (s : Sat g h w) {cs : List AV} {c : Array Value} (t : TypeId) (hc : RVs g cs c.toList) :
    Sat (g.addBx h.length w.heap.size) (h ++ [.box cs]) (w.alloc (.cells c t)) ∧ Ev g h w (g.addBx h.length w.heap.size) (h ++ [.box cs]) (w.alloc (.cells c t)) ∧ (g.addBx h.length w.heap.size).bx h.length = some w.heap.size := by
  have hp := s.past h.length (Nat.le_refl _)
  have hle := G.le_addBx (g := g) (i := h.length) (b := w.heap.size) hp.1
  have hb : (g.addBx h.length w.heap.size).bx h.length = some w.heap.size := by simp [G.addBx]
  have := s.push (g' := g.addBx h.length w.heap.size) (o := .box cs) hle rfl rfl (fun i hi => by simp [G.addBx, hi]) (fun _ _ => rfl) (Wd.alloc w (.cells c t) _) ⟨w.heap.size, c, t, hb, World.alloc_heap_new w _, hc.mono hle⟩
    (fun b h1 => by have h2 : (g.addBx h.length w.heap.size).bx h.length = some b := h1; rw [hb] at h2; injection h2 with e; omega) (fun ver sz es e => by cases e)
  exact ⟨this.1, this.2, hb⟩
theorem OkAt.newH {o : Oper} {σ : St} {cs : List AV} (h : ∀ g lb (act : Act) (w : World), Sat g σ.h w → Tm g lb σ.ls σ.t act.tmps → ∃ c t, RVs g cs c.toList ∧ (execOp act.eval o).run P w = .ok (.value (.pointer (some ⟨w.heap.size, 0, none⟩))) (w.alloc (.cells c t))) :
    OkAt P o (.v (.ptr σ.h.length 0)) σ { σ with h := σ.h ++ [.box cs] } := by
  intro g0 h0 w0 g lb act w m T
  obtain ⟨c, t, h1, h2⟩ := h g lb act w m.sat T
  obtain ⟨h3, h4, h5⟩ := m.sat.pushBox t h1
  exact ⟨_, _, _, lb, .inl h2, m.step h3 h4, ⟨h4.le, fun _ _ => rfl, fun _ h => h, fun i b o hi => get_push hi⟩, .ptr h5, (fun k off e => by cases e), rfl, rfl⟩
theorem ok_alcH {o : Oper} {t : TypeId} {z : List AV} (ho : o.op = .alloc t) (hz : zeroAV P t = some z) {σ σ1 : St} {x : TV} {d : Nat} (he : evo d (.alcH z) σ = some (x, σ1)) : OkAt P o x σ σ1 := by
  simp only [evo] at he
  cases he
  obtain ⟨i, v, h1, h2, h3, _⟩ := zeroAV_ok hz
  exact OkAt.newH fun g lb act w s T => ⟨v.cells, t, noz_rv (h3 g), exec_v (s := Instr.alloc t true (.tuple #[])) (by simp only [execOp, ho]) (run_alloc_ h1 h2 w)⟩
theorem ok_alcHO {o : Oper} {t : TypeId} {z : List AV} (ho : o.op = .alloc t) (hz : zeroAV P t = some z) {σ σ1 : St} {x : TV} {d : Nat} (he : evo d (.alcHO z) σ = some (x, σ1)) : OkAt P o x σ σ1 := by
  simp only [evo] at he
  generalize hoz : ownz z σ.h = q at he
  obtain ⟨cs, h'⟩ := q
  dsimp only at he
  cases he
  obtain ⟨i, v, h1, h2, h3, _⟩ := zeroAV_ok hz
  intro g0 h0 w0 g lb act w m T
  obtain ⟨g', h4, h5, h6, h7⟩ := ownz_ok m.sat (h3 g) hoz
  obtain ⟨h8, h9, h10⟩ := h4.pushBox t h6
  have hx : (execOp act.eval o).run P w = .ok (.value (.pointer (some ⟨w.heap.size, 0, none⟩))) (w.alloc (.cells v.cells t)) := exec_v (s := Instr.alloc t true (.tuple #[])) (by simp only [execOp, ho]) (run_alloc_ h1 h2 w)
  exact ⟨_, _, _, lb, .inl hx, m.step h8 (h5.trans h9), ⟨(h5.trans h9).le, fun _ _ => rfl, fun _ h => h, fun i b o hi => get_push (h7 i _ hi)⟩, .ptr h10, (fun k off e => by cases e), rfl, rfl⟩
theorem ok_bxH {o : Oper} {t : TypeId} {x : Operand} {ax : AX} (ho : o.op = .box t x) (h1 : cx x = some ax) {σ σ1 : St} {y : TV} {d : Nat} (he : evo d (.bxH ax) σ = some (y, σ1)) : OkAt P o y σ σ1 := by
  simp only [evo] at he
  split at he
  · rename_i a ha
    split at he
    · rename_i cs hc
      cases he
      obtain ⟨rfl, _, h3⟩ := cellsN_ok hc
      exact OkAt.newH fun g lb act w s T => ⟨(act.eval x).cells, t, (cells_rv (a_rv T h1 ha) h3).1, exec_v (s := Instr.box t (act.eval x)) (by simp only [execOp, ho]) (run_box_ t _ w)⟩
    · cases he
  · cases he
end Go.Ab
