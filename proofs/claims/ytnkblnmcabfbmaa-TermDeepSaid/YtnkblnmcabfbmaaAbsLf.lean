/- Part Lf: lists of one's own that are never written again. Conditions: none. -/
import Derived.Test.YtnkblnmcabfbmaaAbsK
set_option linter.unusedVariables false
set_option linter.unusedSimpArgs false
namespace Go.Ab
open Go.RowKit

/-- What a ghost step keeps. -/
structure Gs (g : G) (h : List AO) (w : World) (g' : G) (h' : List AO) : Prop where
  sat : Sat g' h' w
  ev : Ev g h w g' h' w
  raw : ∀ (i b : Nat) (o : Obj), h[i]? = some (.raw b o) → h'[i]? = some (.raw b o)
theorem Gs.refl {g : G} {h : List AO} {w : World} (s : Sat g h w) : Gs g h w g h := ⟨s, .refl _ _ _, fun _ _ _ h => h⟩
theorem Gs.trans {g g1 g2 : G} {h h1 h2 : List AO} {w : World} (a : Gs g h w g1 h1) (b : Gs g1 h1 w g2 h2) : Gs g h w g2 h2 :=
  ⟨b.sat, a.ev.trans b.ev, fun i x o k => b.raw i x o (a.raw i x o k)⟩

theorem dead_ok {g g' : G} {h : List AO} {w : World} (s : Sat g h w) {id ver sz : Nat} {es : List (List AV)} (hi : h[id]? = some (.lst ver sz es)) (hle : g.Le g') (hbx : g'.bx = g.bx) (hhd : g'.hd = g.hd) (hfm : g'.fm = g.fm)
    (hfz : ∀ b o v, g'.fz b o = some v → g.fz b o = some v ∨ (OwnAt g id b (.lst ver sz es) ∧ ∃ c t fr, w.heap[b]? = some (.cells c t fr) ∧ c[o]? = some v)) : Gs g h w g' (h.set id .dead) := by
  have hlt : id < h.length := (List.getElem?_eq_some_iff.1 hi).1
  have get : ∀ (i : Nat) (x : AO), (h.set id .dead)[i]? = some x → (i = id ∧ x = .dead) ∨ (i ≠ id ∧ h[i]? = some x) := by
    intro i x hx
    rw [List.getElem?_set] at hx
    by_cases e : id = i
    · subst e; simp [hlt] at hx; exact .inl ⟨rfl, hx.symm⟩
    · simp [e] at hx; exact .inr ⟨fun h => e h.symm, hx⟩
  have ow : ∀ (i : Nat) (x : AO) (b : Nat), OwnAt g' i b x → OwnAt g i b x := by
    intro i x b hx
    cases x with
    | dead => exact hx
    | box cs => show g.bx i = some b; rw [← hbx]; exact hx
    | lst v sz es => obtain ⟨n, c, hx⟩ := hx; exact ⟨n, c, hhd ▸ hx⟩
    | mapo es => show g.bx i = some b; rw [← hbx]; exact hx
    | raw b' o => show g.bx i = some b; rw [← hbx]; exact hx
  have own : ∀ b, Owned g' (h.set id .dead) b → ∃ i x, i ≠ id ∧ h[i]? = some x ∧ OwnAt g i b x := by
    rintro b ⟨i, x, hx, hb⟩
    rcases get i x hx with ⟨rfl, rfl⟩ | ⟨hne, hx⟩
    · exact hb.elim
    · exact ⟨i, x, hne, hx, ow i x b hb⟩
  refine ⟨⟨fun b o v hv => ?_, fun b m hv => s.fm b m (hfm ▸ hv), fun i x hx => ?_, fun i hl => ?_, fun i j x y b hx hy ox oy => ?_, fun b hb => ?_, fun i v sz' es' hx u hu => ?_⟩, ⟨hle, by simp, Nat.le_refl _, rfl, rfl, rfl, fun _ _ _ => rfl, fun b hb => ?_, fun b o hv => ?_, fun b hv => ?_⟩, fun i b o hx => ?_⟩
  · rcases hfz b o v hv with k | ⟨_, k⟩
    · exact s.fz b o v k
    · exact k
  · rcases get i x hx with ⟨rfl, rfl⟩ | ⟨hne, hx⟩
    · trivial
    · exact (s.obj i x hx).mono hle
  · rw [hbx, hhd]; exact s.past i (by simpa using hl)
  · rcases get i x hx with ⟨rfl, rfl⟩ | ⟨_, hx⟩
    · exact ox.elim
    · rcases get j y hy with ⟨rfl, rfl⟩ | ⟨_, hy⟩
      · exact oy.elim
      · exact s.inj i j x y b hx hy (ow _ _ _ ox) (ow _ _ _ oy)
  · obtain ⟨i, x, hne, hx, ox⟩ := own b hb
    have ha := s.apart b ⟨i, x, hx, ox⟩
    refine ⟨fun o => ?_, by rw [hfm]; exact ha.2⟩
    cases hv : g'.fz b o with
    | none => rfl
    | some v =>
      rcases hfz b o v hv with k | ⟨k, _⟩
      · rw [ha.1 o] at k; cases k
      · exact absurd (s.inj i id x _ b hx hi ox k) hne
  · rcases get i _ hx with ⟨_, e⟩ | ⟨_, hx⟩
    · cases e
    · rw [hhd]; exact s.ver i v sz' es' hx u hu
  · obtain ⟨i, x, hne, hx, ox⟩ := own b hb
    exact .inl ⟨i, x, hx, ox⟩
  · cases hv2 : g'.fz b o with
    | none => exact absurd hv2 hv
    | some v =>
      rcases hfz b o v hv2 with k | ⟨k, _⟩
      · exact .inl (by simp [k])
      · exact .inr (.inl ⟨id, _, hi, k⟩)
  · rw [hfm] at hv; exact .inl hv
  · rw [List.getElem?_set]
    by_cases e : id = i
    · subst e; rw [hi] at hx; cases hx
    · simp [e]; exact hx

theorem deadm_ok {g g' : G} {h : List AO} {w : World} (s : Sat g h w) {id bm : Nat} {m : Array MapEntry} {es : List (AV × AV)} (hi : h[id]? = some (.mapo es)) (hown : g.bx id = some bm) (hm : ∃ ck, w.heap[bm]? = some (.map m ck)) (hle : g.Le g') (hbx : g'.bx = g.bx) (hhd : g'.hd = g.hd) (hfm : ∀ b, g'.fm b = if b = bm then some m else g.fm b)
    (hfz : g'.fz = g.fz) : Gs g h w g' (h.set id .dead) := by
  have hlt : id < h.length := (List.getElem?_eq_some_iff.1 hi).1
  have get : ∀ (i : Nat) (x : AO), (h.set id .dead)[i]? = some x → (i = id ∧ x = .dead) ∨ (i ≠ id ∧ h[i]? = some x) := by
    intro i x hx
    rw [List.getElem?_set] at hx
    by_cases e : id = i
    · subst e; simp [hlt] at hx; exact .inl ⟨rfl, hx.symm⟩
    · simp [e] at hx; exact .inr ⟨fun h => e h.symm, hx⟩
  have ow : ∀ (i : Nat) (x : AO) (b : Nat), OwnAt g' i b x → OwnAt g i b x := by
    intro i x b hx
    cases x with
    | dead => exact hx
    | box cs => show g.bx i = some b; rw [← hbx]; exact hx
    | lst v sz es => obtain ⟨n, c, hx⟩ := hx; exact ⟨n, c, hhd ▸ hx⟩
    | mapo es => show g.bx i = some b; rw [← hbx]; exact hx
    | raw b' o => show g.bx i = some b; rw [← hbx]; exact hx
  have own : ∀ b, Owned g' (h.set id .dead) b → ∃ i x, i ≠ id ∧ h[i]? = some x ∧ OwnAt g i b x := by
    rintro b ⟨i, x, hx, hb⟩
    rcases get i x hx with ⟨rfl, rfl⟩ | ⟨hne, hx⟩
    · exact hb.elim
    · exact ⟨i, x, hne, hx, ow i x b hb⟩
  refine ⟨⟨fun b o v hv => ?_, fun b m' hv => ?fm, fun i x hx => ?_, fun i hl => ?_, fun i j x y b hx hy ox oy => ?_, fun b hb => ?_, fun i v sz' es' hx u hu => ?_⟩, ⟨hle, by simp, Nat.le_refl _, rfl, rfl, rfl, fun _ _ _ => rfl, fun b hb => ?_, fun b o hv => ?_, fun b hv => ?_⟩, fun i b o hx => ?_⟩
  case fm =>
    rw [hfm] at hv
    split at hv
    · rename_i e; subst e; cases hv; exact hm
    · exact s.fm b m' hv
  · rw [hfz] at hv; exact s.fz b o v hv
  · rcases get i x hx with ⟨rfl, rfl⟩ | ⟨hne, hx⟩
    · trivial
    · exact (s.obj i x hx).mono hle
  · rw [hbx, hhd]; exact s.past i (by simpa using hl)
  · rcases get i x hx with ⟨rfl, rfl⟩ | ⟨_, hx⟩
    · exact ox.elim
    · rcases get j y hy with ⟨rfl, rfl⟩ | ⟨_, hy⟩
      · exact oy.elim
      · exact s.inj i j x y b hx hy (ow _ _ _ ox) (ow _ _ _ oy)
  · obtain ⟨i, x, hne, hx, ox⟩ := own b hb
    have ha := s.apart b ⟨i, x, hx, ox⟩
    refine ⟨fun o => by rw [hfz]; exact ha.1 o, ?_⟩
    rw [hfm, if_neg]
    · exact ha.2
    · rintro rfl
      exact absurd (s.inj i id x _ b hx hi ox hown) hne
  · rcases get i _ hx with ⟨_, e⟩ | ⟨_, hx⟩
    · cases e
    · rw [hhd]; exact s.ver i v sz' es' hx u hu
  · obtain ⟨i, x, hne, hx, ox⟩ := own b hb
    exact .inl ⟨i, x, hx, ox⟩
  · rw [hfz] at hv; exact .inl hv
  · rw [hfm] at hv
    split at hv
    · rename_i e; subst e; exact .inr (.inl ⟨id, _, hi, hown⟩)
    · exact .inl hv
  · rw [List.getElem?_set]
    by_cases e : id = i
    · subst e; rw [hi] at hx; cases hx
    · simp [e]; exact hx

theorem frz0_ok {n : Nat} {g : G} {h : List AO} {w : World} (s : Sat g h w) {a : AV} {v : Value} (hr : RV g a v) {a' : AV} {h' : List AO} (e : frz0 n a h = (a', h')) : ∃ g', Gs g h w g' h' ∧ RV g' a' v := by
  have same : (a, h) = (a', h') → ∃ g', Gs g h w g' h' ∧ RV g' a' v := fun e => by cases e; exact ⟨g, .refl s, hr⟩
  unfold frz0 at e
  split at e
  · rename_i id ver
    split at e
    · split at e
      · rename_i ver' sz es hi
        split at e
        · rename_i hv
          subst hv
          cases e
          cases hr with
          | ol hd =>
            rename_i ad m c
            rcases s.obj _ _ hi with ⟨h1, h2⟩ | ⟨b, cap, cs, t, l1, l2, h1, h2, h3, h4, h5, h6, h7, h8, h9, h10⟩
            · subst h1
              rw [hd] at h2
              cases h2
              exact ⟨g, dead_ok s hi (.refl g) rfl rfl rfl (fun _ _ _ h => .inl h), .sl0 _ _⟩
            · rw [hd] at h1
              cases h1
              have hown : OwnAt g id b (.lst ver' sz es) := ⟨_, _, hd⟩
              have hnone := (s.apart b ⟨id, _, hi, hown⟩).1
              have hle : g.Le (g.addFz b l1.toArray) := by
                refine ⟨fun b' o v hv => ?_, fun _ _ h => h, fun _ _ h => h, fun _ _ _ h => h⟩
                unfold G.addFz
                dsimp only
                rw [if_neg (by rintro rfl; rw [hnone o] at hv; cases hv)]
                exact hv
              refine ⟨g.addFz b l1.toArray, dead_ok s hi hle rfl rfl rfl fun b' o v hv => ?_, ?_⟩
              · unfold G.addFz at hv
                dsimp only at hv
                split at hv
                · rename_i e
                  subst e
                  refine .inr ⟨hown, cs, t, _, h2, ?_⟩
                  have : cs.toList[o]? = some v := by
                    have hl : l1[o]? = some v := by simpa using hv
                    rw [h8, List.getElem?_append_left (List.getElem?_eq_some_iff.1 hl).1]; exact hl
                  simpa using this
                · exact .inl hv
              · refine .sl (b := b) (o := 0) (sz := sz) (fun k => l1.getD k undef) rfl h6 h5 h7 h10 (fun k a hk => ?_) (fun k a hk => ?_)
                · obtain ⟨u, hu, _⟩ := h9.at hk
                  simp [G.addFz, hu]
                · obtain ⟨u, hu, hru⟩ := h9.at hk
                  simp [hu]; exact hru.mono hle
        · exact same e
      · exact same e
    · exact same e
  · rename_i id
    split at e
    · split at e
      · rename_i es hi
        cases e
        cases hr with
        | mp hb =>
          rename_i bm
          obtain ⟨b', m, ck, h1, h2, h3, h4, h5⟩ := s.obj _ _ hi
          rw [hb] at h1
          cases h1
          have hap := s.apart bm ⟨id, _, hi, hb⟩
          have hle : g.Le { g with fm := fun b => if b = bm then some m else g.fm b } := by
            refine ⟨fun _ _ _ h => h, fun b m' hv => ?_, fun _ _ h => h, fun _ _ _ h => h⟩
            dsimp only
            rw [if_neg (by rintro rfl; rw [hap.2] at hv; cases hv)]
            exact hv
          refine ⟨{ g with fm := fun b => if b = bm then some m else g.fm b }, deadm_ok s hi hb ⟨ck, h2⟩ hle rfl rfl (fun _ => rfl) rfl, ?_⟩
          exact .fmap (b := bm) (m := m) (by simp) h3 (fun i p e hp he => (h4 i p e hp he).mono hle) (fun i p e hp he => (h5 i p e hp he).mono hle)
      · exact same e
    · exact same e
  · exact same e
theorem frzC_ok {n : Nat} {w : World} : ∀ {cs : List AV} {g : G} {h : List AO} {vs : List Value}, Sat g h w → RVs g cs vs → ∀ {cs' : List AV} {h' : List AO}, frzC n cs h = (cs', h') → ∃ g', Gs g h w g' h' ∧ RVs g' cs' vs
  | [], g, h, vs, s, hr, cs', h', e => by cases e; exact ⟨g, .refl s, hr⟩
  | a :: r, g, h, vs, s, hr, cs', h', e => by
    obtain ⟨v, vs', rfl, h1, h2⟩ := hr.inv
    simp only [frzC] at e
    cases e
    obtain ⟨g1, k1, k2⟩ := frz0_ok s h1 (show frz0 n a h = ((frz0 n a h).1, (frz0 n a h).2) from rfl)
    obtain ⟨g2, k3, k4⟩ := frzC_ok k1.sat (h2.mono k1.ev.le) (show frzC n r (frz0 n a h).2 = ((frzC n r (frz0 n a h).2).1, (frzC n r (frz0 n a h).2).2) from rfl)
    exact ⟨g2, k1.trans k3, .cons (k2.mono k3.ev.le) k4⟩
theorem frz1_ok {n : Nat} {g : G} {h : List AO} {w : World} (s : Sat g h w) {a : AV} {v : Value} (hr : RV g a v) {a' : AV} {h' : List AO} (e : frz1 n a h = (a', h')) : ∃ g', Gs g h w g' h' ∧ RV g' a' v := by
  unfold frz1 at e
  split at e
  · rename_i cs
    cases e
    cases hr with
    | agg hl hr =>
      rename_i vs
      obtain ⟨g1, k1, k2⟩ := frzC_ok s (RV.agg_iff.1 (.agg hl hr)) (show frzC n cs h = ((frzC n cs h).1, (frzC n cs h).2) from rfl)
      exact ⟨g1, k1, RV.agg_iff.2 k2⟩
  · exact frz0_ok s hr e
theorem frzL_ok {n : Nat} {w : World} : ∀ {cs : List AV} {g : G} {h : List AO} {vs : List Value}, Sat g h w → RVs g cs vs → ∀ {cs' : List AV} {h' : List AO}, frzL n cs h = (cs', h') → ∃ g', Gs g h w g' h' ∧ RVs g' cs' vs
  | [], g, h, vs, s, hr, cs', h', e => by cases e; exact ⟨g, .refl s, hr⟩
  | a :: r, g, h, vs, s, hr, cs', h', e => by
    obtain ⟨v, vs', rfl, h1, h2⟩ := hr.inv
    simp only [frzL] at e
    cases e
    obtain ⟨g1, k1, k2⟩ := frz1_ok s h1 (show frz1 n a h = ((frz1 n a h).1, (frz1 n a h).2) from rfl)
    obtain ⟨g2, k3, k4⟩ := frzL_ok k1.sat (h2.mono k1.ev.le) (show frzL n r (frz1 n a h).2 = ((frzL n r (frz1 n a h).2).1, (frzL n r (frz1 n a h).2).2) from rfl)
    exact ⟨g2, k1.trans k3, .cons (k2.mono k3.ev.le) k4⟩
theorem frzL_len {n : Nat} : ∀ {cs : List AV} {h : List AO} {cs' : List AV} {h' : List AO}, frzL n cs h = (cs', h') → cs'.length = cs.length
  | [], h, cs', h', e => by cases e; rfl
  | a :: r, h, cs', h', e => by
    simp only [frzL] at e
    cases e
    simp [frzL_len (show frzL n r (frz1 n a h).2 = ((frzL n r (frz1 n a h).2).1, (frzL n r (frz1 n a h).2).2) from rfl)]

theorem Mid.swap {g0 g : G} {h0 h : List AO} {w0 w : World} {lb : Nat → Nat} {ls : List (Nat × List AV)} (m : Mid g0 h0 w0 g lb ls h w) {d : Nat} {c0 cs : List AV} (hd : look d ls = some c0) {c : Array Value} {t : TypeId} (h1 : w.heap[lb d]? = some (.cells c t (0, 0))) (hc : RVs g cs c.toList) :
    Mid g0 h0 w0 g lb (put d cs ls) h w := by
  have hget : ∀ k c', look k (put d cs ls) = some c' → (k = d ∧ c' = cs) ∨ (k ≠ d ∧ look k ls = some c') := by
    intro k c' hk
    rw [look_put] at hk
    by_cases e : k = d
    · subst e; rw [if_pos rfl, hd] at hk; simp at hk; exact .inl ⟨rfl, hk.symm⟩
    · rw [if_neg e] at hk; exact .inr ⟨e, hk⟩
  have hsome : ∀ k c', look k (put d cs ls) = some c' → ∃ c'', look k ls = some c'' := fun k c' hk => by
    rcases hget k c' hk with ⟨rfl, _⟩ | ⟨_, h⟩
    · exact ⟨_, hd⟩
    · exact ⟨_, h⟩
  refine ⟨⟨fun k c' hk => ?_, fun k c' hk => ?_, fun k c' hk => ?_, fun k c' hk => ?_, fun k c' hk => ?_, fun k k' c1 c2 hk hk' => ?_⟩, m.sat, m.ev⟩
  · rcases hget k c' hk with ⟨rfl, rfl⟩ | ⟨_, h⟩
    · exact ⟨c, t, h1, hc⟩
    · exact m.lok.ok k c' h
  · obtain ⟨c'', h⟩ := hsome k c' hk; exact m.lok.new k c'' h
  · obtain ⟨c'', h⟩ := hsome k c' hk; exact m.lok.own k c'' h
  · obtain ⟨c'', h⟩ := hsome k c' hk; exact m.lok.fz k c'' h
  · obtain ⟨c'', h⟩ := hsome k c' hk; exact m.lok.fm k c'' h
  · obtain ⟨c3, h⟩ := hsome k c1 hk
    obtain ⟨c4, h'⟩ := hsome k' c2 hk'
    exact m.lok.inj k k' c3 c4 h h'
theorem ok_ldz {P : Program} {o : Oper} {t : TypeId} {n : Nat} {ag : Bool} {x : Operand} {ax : AX} (ho : o.op = .load t x) (hn : szOf P t = some n) (hag : agOf P t = some ag) (h1 : cx x = some ax) {σ σ1 : St} {z : TV} {d : Nat} (he : evo d (.ldz n ag ax) σ = some (z, σ1)) : OkAt P o z σ σ1 := by
  simp only [evo] at he
  split at he
  · rename_i k off hq
    split at he
    · rename_i cs hl
      generalize hf : frzC 0 cs σ.h = ff at he
      obtain ⟨cs', h'⟩ := ff
      dsimp only at he
      split at he
      · rename_i y hrd
        cases he
        intro g0 h0 w0 g lb act w m T
        have hv := ax_rt T h1; rw [hq] at hv
        have hv : act.eval x = .pointer (some ⟨lb k, off, none⟩) := hv
        obtain ⟨c, t', h3, h4⟩ := m.lok.ok k cs hl
        obtain ⟨g', k1, k2⟩ := frzC_ok m.sat h4 hf
        have m2 := (m.step k1.sat k1.ev).swap hl h3 k2
        obtain ⟨v, y', h5, rfl, h6⟩ := run_loadAt (b := lb k) (o := off) hn hag (us := c.toList.drop off) (fun j u hj => by
          rw [cell_of_block h3]; rw [List.getElem?_drop] at hj; simpa using hj) (k2.drop off) hrd
        refine ⟨v, w, g', lb, .inl (exec_v (s := Instr.loadAt t (act.eval x)) (by simp only [execOp, ho]) (by rw [hv]; exact h5)), m2, ⟨k1.ev.le, fun _ _ => rfl, fun d hd => ?_, k1.raw⟩, h6, fun k off e => (by cases e), rfl, rfl⟩
        rw [look_put]
        split
        · rename_i e; subst e; rw [hl]; simp
        · exact hd
      · cases he
    · cases he
  · cases he
end Go.Ab
