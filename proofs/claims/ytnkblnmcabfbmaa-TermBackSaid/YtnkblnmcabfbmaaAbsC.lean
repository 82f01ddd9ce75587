/- Part C: what a step does to memory and to what is known of it. Conditions: none. -/
import Derived.Test.YtnkblnmcabfbmaaAbsB
set_option linter.unusedVariables false
set_option linter.unusedSimpArgs false
namespace Go.Ab
open Go.RowKit

/-- Memory has grown; old blocks may have turned only where they are let. -/
structure Wd (w w' : World) (P : Nat → Prop) : Prop where
  size : w.heap.size ≤ w'.heap.size
  os : w'.os = w.os
  tape : w'.tape = w.tape
  output : w'.output = w.output
  kept : ∀ b, b < w.heap.size → ¬ P b → w'.heap[b]? = w.heap[b]?

theorem Wd.refl (w : World) (P : Nat → Prop) : Wd w w P := ⟨Nat.le_refl _, rfl, rfl, rfl, fun _ _ _ => rfl⟩
theorem Wd.alloc (w : World) (o : Obj) (P : Nat → Prop) : Wd w (w.alloc o) P := ⟨by simp, rfl, rfl, rfl, fun b hb _ => Below.heap_alloc w o b hb⟩
theorem Wd.putObj (w : World) (b : Nat) (o : Obj) {P : Nat → Prop} (h : P b) : Wd w (w.putObj b o) P :=
  ⟨by simp, rfl, rfl, rfl, fun x hx hn => World.putObj_heap_other fun e => hn (e ▸ h)⟩
theorem Wd.drew (w : World) (P : Nat → Prop) : Wd w { w with drawn := w.drawn + 1 } P := ⟨Nat.le_refl _, rfl, rfl, rfl, fun _ _ _ => rfl⟩
theorem Wd.trans {a b c : World} {P : Nat → Prop} (h : Wd a b P) (k : Wd b c P) : Wd a c P :=
  ⟨Nat.le_trans h.size k.size, k.os.trans h.os, k.tape.trans h.tape, k.output.trans h.output, fun x hx hn => (k.kept x (Nat.lt_of_lt_of_le hx h.size) hn).trans (h.kept x hx hn)⟩
theorem Wd.mono {a b : World} {P P' : Nat → Prop} (h : Wd a b P) (k : ∀ x, P x → P' x) : Wd a b P' :=
  ⟨h.size, h.os, h.tape, h.output, fun x hx hn => h.kept x hx fun p => hn (k x p)⟩

/-- A new object. -/
theorem Sat.push {g g' : G} {h : List AO} {w w' : World} {o : AO} (s : Sat g h w) (hle : g.Le g') (hfz : g'.fz = g.fz) (hfm : g'.fm = g.fm)
    (hbx : ∀ i, i ≠ h.length → g'.bx i = g.bx i) (hhd : ∀ i, i ≠ h.length → g'.hd i = g.hd i) (hw : Wd w w' fun _ => False)
    (ho : ObjOk g' w' h.length o) (hown : ∀ b, OwnAt g' h.length b o → w.heap.size ≤ b) (hver : ∀ ver sz es, o = .lst ver sz es → ∀ v, ver < v → g'.hd h.length v = none) :
    Sat g' (h ++ [o]) w' ∧ Ev g h w g' (h ++ [o]) w' := by
  have hk : ∀ b, b < w.heap.size → w'.heap[b]? = w.heap[b]? := fun b hb => hw.kept b hb (fun x => x)
  have hget : ∀ i x, (h ++ [o])[i]? = some x → (h[i]? = some x ∧ i < h.length) ∨ (i = h.length ∧ x = o) := by
    intro i x hx
    rcases Nat.lt_trichotomy i h.length with hi | hi | hi
    · rw [List.getElem?_append_left hi] at hx; exact .inl ⟨hx, hi⟩
    · subst hi; simp at hx; exact .inr ⟨rfl, hx.symm⟩
    · rw [List.getElem?_eq_none (by simp; omega)] at hx; cases hx
  have hback : ∀ i x b, h[i]? = some x → OwnAt g' i b x → OwnAt g i b x := fun i x b hx hb => hb.back hle (s.obj i x hx)
  have hown' : ∀ b, Owned g' (h ++ [o]) b → Owned g h b ∨ w.heap.size ≤ b := by
    rintro b ⟨i, x, hx, hb⟩
    rcases hget i x hx with ⟨h1, _⟩ | ⟨rfl, rfl⟩
    · exact .inl ⟨i, x, h1, hback i x b h1 hb⟩
    · exact .inr (hown b hb)
  refine ⟨⟨?_, ?_, ?_, ?_, ?_, ?_, ?_⟩, ⟨hle, by simp, hw.size, hw.os, hw.tape, hw.output, fun b hb _ => hk b hb, hown', ?_, ?_⟩⟩
  · intro b o' v hv
    rw [hfz] at hv
    obtain ⟨c, t, fr, h1, h2⟩ := s.fz b o' v hv
    exact ⟨c, t, fr, (hk b (s.fz_lt hv)).trans h1, h2⟩
  · intro b m hv
    rw [hfm] at hv
    obtain ⟨ck, h1⟩ := s.fm b m hv
    exact ⟨ck, (hk b (s.fm_lt hv)).trans h1⟩
  · intro i x hx
    rcases hget i x hx with ⟨h1, _⟩ | ⟨rfl, rfl⟩
    · exact ((s.obj i x h1).mono hle).heap fun b hb => hk b ((s.obj i x h1).lt (hback i x b h1 hb))
    · exact ho
  · intro i hi
    have h1 : i ≠ h.length := by simp at hi; omega
    rw [hbx i h1, hhd i h1]
    exact s.past i (by simp at hi; omega)
  · intro i j x y b hx hy hb hc
    rcases hget i x hx with ⟨h1, hi⟩ | ⟨rfl, rfl⟩ <;> rcases hget j y hy with ⟨h2, hj⟩ | ⟨rfl, rfl⟩
    · exact s.inj i j x y b h1 h2 (hback _ _ _ h1 hb) (hback _ _ _ h2 hc)
    · have := hown b hc; have := (s.obj i x h1).lt (hback _ _ _ h1 hb); omega
    · have := hown b hb; have := (s.obj j y h2).lt (hback _ _ _ h2 hc); omega
    · rfl
  · intro b hb
    rcases hown' b hb with h1 | h1
    · rw [hfz, hfm]; exact s.apart b h1
    · rw [hfz, hfm]
      refine ⟨fun o' => ?_, ?_⟩
      · cases hf : g.fz b o' with
        | none => rfl
        | some v => have := s.fz_lt hf; omega
      · cases hf : g.fm b with
        | none => rfl
        | some v => have := s.fm_lt hf; omega
  · intro i ver sz es hx v hv
    rcases hget i _ hx with ⟨h1, hi⟩ | ⟨rfl, hxo⟩
    · rw [hhd i (by omega)]; exact s.ver i ver sz es h1 v hv
    · exact hver ver sz es hxo.symm v hv
  · intro b o' hb; rw [hfz] at hb; exact .inl hb
  · intro b hb; rw [hfm] at hb; exact .inl hb

/-- An object turns. -/
theorem Sat.upd {g g' : G} {h : List AO} {w w' : World} {id : Nat} {o o' : AO} (s : Sat g h w) (hid : h[id]? = some o) (hle : g.Le g') (hfz : g'.fz = g.fz) (hfm : g'.fm = g.fm)
    (hbx : g'.bx = g.bx) (hhd : ∀ i, i ≠ id → g'.hd i = g.hd i) (hw : Wd w w' fun b => OwnAt g id b o)
    (ho : ObjOk g' w' id o') (hown : ∀ b, OwnAt g' id b o' → OwnAt g id b o ∨ w.heap.size ≤ b) (hver : ∀ ver sz es, o' = .lst ver sz es → ∀ v, ver < v → g'.hd id v = none) :
    Sat g' (h.set id o') w' ∧ Ev g h w g' (h.set id o') w' := by
  have hlt : id < h.length := (List.getElem?_eq_some_iff.1 hid).1
  have hget : ∀ i x, (h.set id o')[i]? = some x → (h[i]? = some x ∧ i ≠ id) ∨ (i = id ∧ x = o') := by
    intro i x hx
    rw [List.getElem?_set] at hx
    by_cases e : id = i
    · subst e; simp [hlt] at hx; exact .inr ⟨rfl, hx.symm⟩
    · simp [e] at hx; exact .inl ⟨hx, fun h => e h.symm⟩
  have hback : ∀ i x b, h[i]? = some x → OwnAt g' i b x → OwnAt g i b x := fun i x b hx hb => hb.back hle (s.obj i x hx)
  have hown' : ∀ b, Owned g' (h.set id o') b → Owned g h b ∨ w.heap.size ≤ b := by
    rintro b ⟨i, x, hx, hb⟩
    rcases hget i x hx with ⟨h1, _⟩ | ⟨rfl, rfl⟩
    · exact .inl ⟨i, x, h1, hback i x b h1 hb⟩
    · rcases hown b hb with h1 | h1
      · exact .inl ⟨_, _, hid, h1⟩
      · exact .inr h1
  have hko : ∀ b, b < w.heap.size → ¬ Owned g h b → w'.heap[b]? = w.heap[b]? := fun b hb hn => hw.kept b hb fun p => hn ⟨id, o, hid, p⟩
  refine ⟨⟨?_, ?_, ?_, ?_, ?_, ?_, ?_⟩, ⟨hle, by simp, hw.size, hw.os, hw.tape, hw.output, hko, hown', ?_, ?_⟩⟩
  · intro b o' v hv
    rw [hfz] at hv
    obtain ⟨c, t, fr, h1, h2⟩ := s.fz b o' v hv
    exact ⟨c, t, fr, (hko b (s.fz_lt hv) fun k => by have := (s.apart b k).1 o'; rw [this] at hv; cases hv).trans h1, h2⟩
  · intro b m hv
    rw [hfm] at hv
    obtain ⟨ck, h1⟩ := s.fm b m hv
    exact ⟨ck, (hko b (s.fm_lt hv) fun k => by have := (s.apart b k).2; rw [this] at hv; cases hv).trans h1⟩
  · intro i x hx
    rcases hget i x hx with ⟨h1, hi⟩ | ⟨rfl, rfl⟩
    · exact ((s.obj i x h1).mono hle).heap fun b hb => hw.kept b ((s.obj i x h1).lt (hback i x b h1 hb)) fun p => hi (s.inj i id x o b h1 hid (hback i x b h1 hb) p)
    · exact ho
  · intro i hi
    have h1 : i ≠ id := by simp at hi; omega
    rw [hbx, hhd i h1]
    exact s.past i (by simpa using hi)
  · intro i j x y b hx hy hb hc
    rcases hget i x hx with ⟨h1, hi⟩ | ⟨rfl, rfl⟩ <;> rcases hget j y hy with ⟨h2, hj⟩ | ⟨rfl, rfl⟩
    · exact s.inj i j x y b h1 h2 (hback _ _ _ h1 hb) (hback _ _ _ h2 hc)
    · rcases hown b hc with k | k
      · exact s.inj i _ x o b h1 hid (hback _ _ _ h1 hb) k
      · have := (s.obj i x h1).lt (hback _ _ _ h1 hb); omega
    · rcases hown b hb with k | k
      · exact s.inj _ j o y b hid h2 k (hback _ _ _ h2 hc)
      · have := (s.obj j y h2).lt (hback _ _ _ h2 hc); omega
    · rfl
  · intro b hb
    rcases hown' b hb with h1 | h1
    · rw [hfz, hfm]; exact s.apart b h1
    · rw [hfz, hfm]
      refine ⟨fun o' => ?_, ?_⟩
      · cases hf : g.fz b o' with
        | none => rfl
        | some v => have := s.fz_lt hf; omega
      · cases hf : g.fm b with
        | none => rfl
        | some v => have := s.fm_lt hf; omega
  · intro i ver sz es hx v hv
    rcases hget i _ hx with ⟨h1, hi⟩ | ⟨rfl, hxo⟩
    · rw [hhd i hi]; exact s.ver i ver sz es h1 v hv
    · exact hver ver sz es hxo.symm v hv
  · intro b o' hb; rw [hfz] at hb; exact .inl hb
  · intro b hb; rw [hfm] at hb; exact .inl hb

/-- Ghosts of a new row that is never written again. -/
def G.addFz (g : G) (b : Nat) (c : Array Value) : G := { g with fz := fun b' o => if b' = b then c[o]? else g.fz b' o }
def G.addBx (g : G) (i b : Nat) : G := { g with bx := fun j => if j = i then some b else g.bx j }
def G.addHd (g : G) (i v : Nat) (x : Option Addr × Nat × Nat) : G := { g with hd := fun j u => if j = i ∧ u = v then some x else g.hd j u }

theorem G.le_addBx {g : G} {i b : Nat} (h : g.bx i = none) : g.Le (g.addBx i b) := by
  refine ⟨fun _ _ _ h => h, fun _ _ h => h, fun j x hj => ?_, fun _ _ _ h => h⟩
  unfold addBx
  dsimp only
  by_cases e : j = i
  · subst e; rw [h] at hj; cases hj
  · rw [if_neg e]; exact hj
theorem G.le_addHd {g : G} {i v : Nat} {x : Option Addr × Nat × Nat} (h : g.hd i v = none) : g.Le (g.addHd i v x) := by
  refine ⟨fun _ _ _ h => h, fun _ _ h => h, fun _ _ h => h, fun j u y hj => ?_⟩
  unfold addHd
  dsimp only
  by_cases e : j = i ∧ u = v
  · obtain ⟨rfl, rfl⟩ := e; rw [h] at hj; cases hj
  · rw [if_neg e]; exact hj

theorem Sat.freeze {g : G} {h : List AO} {w : World} (s : Sat g h w) (c : Array Value) (t : TypeId) :
    Sat (g.addFz w.heap.size c) h (w.alloc (.cells c t)) ∧ Ev g h w (g.addFz w.heap.size c) h (w.alloc (.cells c t)) := by
  have hle : g.Le (g.addFz w.heap.size c) := by
    refine ⟨fun b o v hv => ?_, fun _ _ h => h, fun _ _ h => h, fun _ _ _ h => h⟩
    unfold G.addFz
    dsimp only
    rw [if_neg (by have := s.fz_lt hv; omega)]
    exact hv
  have hk : ∀ b, b < w.heap.size → (w.alloc (.cells c t)).heap[b]? = w.heap[b]? := fun b hb => Below.heap_alloc w _ b hb
  have hown : ∀ b, Owned (g.addFz w.heap.size c) h b → Owned g h b := fun b ⟨i, x, hx, hb⟩ => ⟨i, x, hx, hb.back hle (s.obj i x hx)⟩
  refine ⟨⟨?_, ?_, ?_, s.past, ?_, ?_, s.ver⟩, ⟨hle, Nat.le_refl _, by simp, rfl, rfl, rfl, fun b hb _ => hk b hb, fun b hb => .inl (hown b hb), ?_, fun b hb => .inl hb⟩⟩
  · intro b o v hv
    unfold G.addFz at hv; dsimp only at hv
    by_cases e : b = w.heap.size
    · subst e
      rw [if_pos rfl] at hv
      exact ⟨c, t, (0, 0), World.alloc_heap_new w _, hv⟩
    · rw [if_neg e] at hv
      obtain ⟨c', t', fr, h1, h2⟩ := s.fz b o v hv
      exact ⟨c', t', fr, (hk b (s.fz_lt hv)).trans h1, h2⟩
  · intro b m hv
    obtain ⟨ck, h1⟩ := s.fm b m hv
    exact ⟨ck, (hk b (s.fm_lt hv)).trans h1⟩
  · intro i x hx
    exact ((s.obj i x hx).mono hle).heap fun b hb => hk b ((s.obj i x hx).lt (hb.back hle (s.obj i x hx)))
  · intro i j x y b hx hy hb hc
    exact s.inj i j x y b hx hy (hb.back hle (s.obj i x hx)) (hc.back hle (s.obj j y hy))
  · intro b hb
    have h1 := hown b hb
    refine ⟨fun o => ?_, (s.apart b h1).2⟩
    unfold G.addFz; dsimp only
    rw [if_neg (by have := s.owned_lt h1; omega)]
    exact (s.apart b h1).1 o
  · intro b o hb
    unfold G.addFz at hb; dsimp only at hb
    by_cases e : b = w.heap.size
    · exact .inr (.inr (by omega))
    · rw [if_neg e] at hb; exact .inl hb

/-! ### The frame of one function -/
def RT (g : G) (lb : Nat → Nat) : TV → Value → Prop
  | .v a, v => RV g a v
  | .lp d off, v => v = .pointer (some ⟨lb d, off, none⟩)
  | .ep cs, v => ∃ b o, v = .pointer (some ⟨b, o, none⟩) ∧ ∃ f : Nat → Value, (∀ (k : Nat) (a : AV), cs[k]? = some a → g.fz b (o + k) = some (f k)) ∧ ∀ (k : Nat) (a : AV), cs[k]? = some a → RV g a (f k)
  | .op id ver sz i off, v => ∃ b n c, g.hd id ver = some (some ⟨b, 0, none⟩, n, c) ∧ v = .pointer (some ⟨b, i * sz + off, none⟩)
  | .junk, _ => True
  | .und, v => v = undef

structure Lok (B : Nat) (g : G) (h : List AO) (w : World) (lb : Nat → Nat) (ls : List (Nat × List AV)) : Prop where
  ok : ∀ d cs, look d ls = some cs → ∃ c t, w.heap[lb d]? = some (.cells c t (0, 0)) ∧ RVs g cs c.toList
  new : ∀ d cs, look d ls = some cs → B ≤ lb d
  own : ∀ d cs, look d ls = some cs → ¬ Owned g h (lb d)
  fz : ∀ d cs, look d ls = some cs → ∀ o, g.fz (lb d) o = none
  fm : ∀ d cs, look d ls = some cs → g.fm (lb d) = none
  inj : ∀ d d' cs cs', look d ls = some cs → look d' ls = some cs' → lb d = lb d' → d = d'

structure Mid (g0 : G) (h0 : List AO) (w0 : World) (g : G) (lb : Nat → Nat) (ls : List (Nat × List AV)) (h : List AO) (w : World) : Prop where
  lok : Lok w0.heap.size g h w lb ls
  sat : Sat g h w
  ev : Ev g0 h0 w0 g h w

structure Tm (g : G) (lb : Nat → Nat) (ls : List (Nat × List AV)) (t : Ts) (tmps : Array Value) : Prop where
  len : t.n = tmps.size
  at_ : ∀ (i : Nat), RT g lb (tg i t.l) (tmps.getD i undef)
  live : ∀ (i d off : Nat), tg i t.l = .lp d off → look d ls ≠ none

/-- What a step keeps of ghosts. -/
structure Ee (g : G) (lb : Nat → Nat) (ls : List (Nat × List AV)) (h : List AO) (g' : G) (lb' : Nat → Nat) (ls' : List (Nat × List AV)) (h' : List AO) : Prop where
  le : g.Le g'
  lb : ∀ d, look d ls ≠ none → lb' d = lb d
  ls : ∀ d, look d ls ≠ none → look d ls' ≠ none
  raw : ∀ (i b : Nat) (o : Obj), h[i]? = some (.raw b o) → h'[i]? = some (.raw b o)

theorem RT.mono {g g' : G} {lb lb' : Nat → Nat} {x : TV} {v : Value} (hg : g.Le g') (hl : ∀ d off, x = .lp d off → lb' d = lb d) (h : RT g lb x v) : RT g' lb' x v := by
  cases x with
  | v a => exact RV.mono hg h
  | lp d off => have h' : v = .pointer (some ⟨lb d, off, none⟩) := h
                show v = .pointer (some ⟨lb' d, off, none⟩)
                rw [hl d off rfl]; exact h'
  | ep cs => obtain ⟨b, o, e, f, h1, h2⟩ := h; exact ⟨b, o, e, f, fun k a x => hg.fz _ _ _ (h1 k a x), fun k a x => (h2 k a x).mono hg⟩
  | op id ver sz i off => obtain ⟨b, n, c, h1, h2⟩ := h; exact ⟨b, n, c, hg.hd _ _ _ h1, h2⟩
  | junk => trivial
  | und => exact h
theorem Tm.mono {g g' : G} {lb lb' : Nat → Nat} {ls ls' : List (Nat × List AV)} {h h' : List AO} {t : Ts} {tmps : Array Value} (e : Ee g lb ls h g' lb' ls' h') (k : Tm g lb ls t tmps) : Tm g' lb' ls' t tmps where
  len := k.len
  at_ i := (k.at_ i).mono e.le fun d off hd => e.lb d (k.live i d off hd)
  live i d off hx := e.ls d (k.live i d off hx)
theorem Ee.refl (g : G) (lb : Nat → Nat) (ls : List (Nat × List AV)) (h : List AO) : Ee g lb ls h g lb ls h := ⟨.refl g, fun _ _ => rfl, fun _ h => h, fun _ _ _ h => h⟩

/-- A step of memory, and of what is known of it, that leaves local variables alone. -/
theorem Mid.step {g0 g g' : G} {h0 h h' : List AO} {w0 w w' : World} {lb : Nat → Nat} {ls : List (Nat × List AV)} (m : Mid g0 h0 w0 g lb ls h w) (s : Sat g' h' w') (e : Ev g h w g' h' w') :
    Mid g0 h0 w0 g' lb ls h' w' where
  lok := {
    ok := fun d cs hd => by
      obtain ⟨c, t, h1, h2⟩ := m.lok.ok d cs hd
      exact ⟨c, t, (e.kept _ (Array.getElem?_eq_some_iff.1 h1).1 (m.lok.own d cs hd)).trans h1, h2.mono e.le⟩
    new := m.lok.new
    own := fun d cs hd ho => by
      obtain ⟨c, t, h1, h2⟩ := m.lok.ok d cs hd
      have := (Array.getElem?_eq_some_iff.1 h1).1
      rcases e.own _ ho with k | k
      · exact m.lok.own d cs hd k
      · omega
    fz := fun d cs hd o => by
      obtain ⟨c, t, h1, h2⟩ := m.lok.ok d cs hd
      have h3 := (Array.getElem?_eq_some_iff.1 h1).1
      cases hf : g'.fz (lb d) o with
      | none => rfl
      | some v =>
        rcases e.fzn (lb d) o (by simp [hf]) with k | k | k
        · exact absurd (m.lok.fz d cs hd o) k
        · exact absurd k (m.lok.own d cs hd)
        · omega
    fm := fun d cs hd => by
      obtain ⟨c, t, h1, h2⟩ := m.lok.ok d cs hd
      have h3 := (Array.getElem?_eq_some_iff.1 h1).1
      cases hf : g'.fm (lb d) with
      | none => rfl
      | some v =>
        rcases e.fmn (lb d) (by simp [hf]) with k | k | k
        · exact absurd (m.lok.fm d cs hd) k
        · exact absurd k (m.lok.own d cs hd)
        · omega
    inj := m.lok.inj }
  sat := s
  ev := m.ev.trans e

theorem look_put (d k : Nat) (c : List AV) : ∀ ls, look k (put d c ls) = if k = d then (look k ls).map (fun _ => c) else look k ls
  | [] => by simp [put, look]
  | (j, x) :: r => by
    simp only [put]
    by_cases e : j = d
    · subst e
      rw [if_pos rfl]
      simp only [look]
      by_cases h : j = k
      · subst h; simp
      · rw [if_neg h, if_neg h, if_neg (fun e => h e.symm)]
    · rw [if_neg e]
      simp only [look]
      by_cases h : j = k
      · subst h; simp [e]
      · rw [if_neg h, if_neg h]; exact look_put d k c r

/-- A new local variable. -/
theorem Mid.local_ {g0 g : G} {h0 h : List AO} {w0 w : World} {lb : Nat → Nat} {ls : List (Nat × List AV)} (m : Mid g0 h0 w0 g lb ls h w) {d : Nat} (hd : look d ls = none) {cs : List AV} {c : Array Value} (t : TypeId) (hc : RVs g cs c.toList) :
    Mid g0 h0 w0 g (fun k => if k = d then w.heap.size else lb k) ((d, cs) :: ls) h (w.alloc (.cells c t)) ∧
    Ee g lb ls h g (fun k => if k = d then w.heap.size else lb k) ((d, cs) :: ls) h := by
  have hne : ∀ k, look k ls ≠ none → k ≠ d := fun k hk e => hk (e ▸ hd)
  have hget : ∀ k c', look k ((d, cs) :: ls) = some c' → (k = d ∧ c' = cs) ∨ (k ≠ d ∧ look k ls = some c') := by
    intro k c' hk
    simp only [look] at hk
    by_cases e : d = k
    · rw [if_pos e] at hk; injection hk with hk; exact .inl ⟨e.symm, hk.symm⟩
    · rw [if_neg e] at hk; exact .inr ⟨fun x => e x.symm, hk⟩
  have hold : ∀ k c', look k ls = some c' → lb k < w.heap.size := fun k c' hk => by
    obtain ⟨c1, t1, h1, _⟩ := m.lok.ok k c' hk
    exact (Array.getElem?_eq_some_iff.1 h1).1
  have hown : ¬ Owned g h w.heap.size := fun k => by have := m.sat.owned_lt k; omega
  refine ⟨⟨⟨?_, ?_, ?_, ?_, ?_, ?_⟩, m.sat.heap fun b hb _ => Below.heap_alloc w _ b hb, m.ev.trans ⟨.refl g, Nat.le_refl _, by simp, rfl, rfl, rfl, fun b hb _ => Below.heap_alloc w _ b hb, fun b hb => .inl hb, fun b o hb => .inl hb, fun b hb => .inl hb⟩⟩,
    ⟨.refl g, fun k hk => if_neg (hne k hk), fun k hk => by simp only [look]; rw [if_neg (fun e => hne k hk e.symm)]; exact hk, fun _ _ _ h => h⟩⟩
  · intro k c' hk
    try dsimp only
    rcases hget k c' hk with ⟨rfl, rfl⟩ | ⟨h1, h2⟩
    · rw [if_pos rfl]; exact ⟨c, t, World.alloc_heap_new w _, hc⟩
    · rw [if_neg h1]
      obtain ⟨c1, t1, h3, h4⟩ := m.lok.ok k c' h2
      exact ⟨c1, t1, (Below.heap_alloc w _ _ (hold k c' h2)).trans h3, h4⟩
  · intro k c' hk
    try dsimp only
    rcases hget k c' hk with ⟨rfl, rfl⟩ | ⟨h1, h2⟩
    · rw [if_pos rfl]; exact m.ev.size
    · rw [if_neg h1]; exact m.lok.new k c' h2
  · intro k c' hk
    try dsimp only
    rcases hget k c' hk with ⟨rfl, rfl⟩ | ⟨h1, h2⟩
    · rw [if_pos rfl]; exact hown
    · rw [if_neg h1]; exact m.lok.own k c' h2
  · intro k c' hk o
    try dsimp only
    rcases hget k c' hk with ⟨rfl, rfl⟩ | ⟨h1, h2⟩
    · rw [if_pos rfl]
      cases hf : g.fz w.heap.size o with
      | none => rfl
      | some v => have := m.sat.fz_lt hf; omega
    · rw [if_neg h1]; exact m.lok.fz k c' h2 o
  · intro k c' hk
    try dsimp only
    rcases hget k c' hk with ⟨rfl, rfl⟩ | ⟨h1, h2⟩
    · rw [if_pos rfl]
      cases hf : g.fm w.heap.size with
      | none => rfl
      | some v => have := m.sat.fm_lt hf; omega
    · rw [if_neg h1]; exact m.lok.fm k c' h2
  · intro k k' c1 c2 hk hk' e
    try dsimp only at e
    rcases hget k c1 hk with ⟨rfl, rfl⟩ | ⟨h1, h2⟩ <;> rcases hget k' c2 hk' with ⟨rfl, rfl⟩ | ⟨h3, h4⟩
    · rfl
    · rw [if_pos rfl, if_neg h3] at e; have := hold k' c2 h4; omega
    · rw [if_pos rfl, if_neg h1] at e; have := hold k c1 h2; omega
    · rw [if_neg h1, if_neg h3] at e; exact m.lok.inj k k' c1 c2 h2 h4 e

/-- A local variable is written. -/
theorem Mid.write {g0 g : G} {h0 h : List AO} {w0 w : World} {lb : Nat → Nat} {ls : List (Nat × List AV)} (m : Mid g0 h0 w0 g lb ls h w) {d : Nat} {c0 cs : List AV} (hd : look d ls = some c0) {c : Array Value} (t : TypeId) (hc : RVs g cs c.toList) :
    Mid g0 h0 w0 g lb (put d cs ls) h (w.putObj (lb d) (.cells c t (0, 0))) ∧ Ee g lb ls h g lb (put d cs ls) h := by
  obtain ⟨c1, t1, h1, _⟩ := m.lok.ok d c0 hd
  have hlt := (Array.getElem?_eq_some_iff.1 h1).1
  have hget : ∀ k c', look k (put d cs ls) = some c' → (k = d ∧ c' = cs) ∨ (k ≠ d ∧ look k ls = some c') := by
    intro k c' hk
    rw [look_put] at hk
    by_cases e : k = d
    · subst e; rw [if_pos rfl, hd] at hk; simp at hk; exact .inl ⟨rfl, hk.symm⟩
    · rw [if_neg e] at hk; exact .inr ⟨e, hk⟩
  have hsome : ∀ k c', look k (put d cs ls) = some c' → ∃ c'', look k ls = some c'' := fun k c' hk => by
    rcases hget k c' hk with ⟨rfl, _⟩ | ⟨_, h⟩
    · exact ⟨_, hd⟩
    · exact ⟨_, h⟩
  have hkept : ∀ b, b < w.heap.size → (Owned g h b ∨ (∃ o, g.fz b o ≠ none) ∨ g.fm b ≠ none) → (w.putObj (lb d) (.cells c t (0, 0))).heap[b]? = w.heap[b]? := by
    intro b hb hx
    refine World.putObj_heap_other fun e => ?_
    subst e
    rcases hx with k | ⟨o, k⟩ | k
    · exact m.lok.own d c0 hd k
    · exact k (m.lok.fz d c0 hd o)
    · exact k (m.lok.fm d c0 hd)
  refine ⟨⟨⟨?_, ?_, ?_, ?_, ?_, ?_⟩, m.sat.heap hkept, ⟨m.ev.le, m.ev.len, by simpa using m.ev.size, m.ev.os, m.ev.tape, m.ev.output, fun b hb hn => ?_, m.ev.own, m.ev.fzn, m.ev.fmn⟩⟩, ⟨.refl g, fun _ _ => rfl, fun k hk => ?_, fun _ _ _ h => h⟩⟩
  · intro k c' hk
    rcases hget k c' hk with ⟨rfl, rfl⟩ | ⟨h2, h3⟩
    · exact ⟨c, t, World.putObj_heap_same hlt, hc⟩
    · obtain ⟨c2, t2, h4, h5⟩ := m.lok.ok k c' h3
      exact ⟨c2, t2, (World.putObj_heap_other fun e => h2 (m.lok.inj k d c' c0 h3 hd e)).trans h4, h5⟩
  · intro k c' hk; obtain ⟨c'', h2⟩ := hsome k c' hk; exact m.lok.new k c'' h2
  · intro k c' hk; obtain ⟨c'', h2⟩ := hsome k c' hk; exact m.lok.own k c'' h2
  · intro k c' hk; obtain ⟨c'', h2⟩ := hsome k c' hk; exact m.lok.fz k c'' h2
  · intro k c' hk; obtain ⟨c'', h2⟩ := hsome k c' hk; exact m.lok.fm k c'' h2
  · intro k k' c2 c3 hk hk' e; obtain ⟨_, h2⟩ := hsome k c2 hk; obtain ⟨_, h3⟩ := hsome k' c3 hk'; exact m.lok.inj k k' _ _ h2 h3 e
  · have := m.lok.new d c0 hd
    exact (World.putObj_heap_other fun e => by omega).trans (m.ev.kept b hb hn)
  · rw [look_put]
    by_cases e : k = d
    · subst e; rw [if_pos rfl, hd]; simp
    · rw [if_neg e]; exact hk
end Go.Ab
