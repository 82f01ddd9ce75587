/- Part P: a function's end: what it has set up for itself is dropped. Conditions: none. -/
import Derived.Test.YtnkblnmcabfbmaaAbsO
set_option linter.unusedVariables false
set_option linter.unusedSimpArgs false
namespace Go.Ab
open Go.RowKit

variable {P : Program}

/-- All that a value points to is numbered below n. -/
inductive Lt (n : Nat) : AV → Prop
  | bool (b : Bool) : Lt n (.bool b)
  | int (k : IntKind) (m : Int) : Lt n (.int k m)
  | str (s : ByteArray) : Lt n (.str s)
  | nilp : Lt n .nilp
  | ptr {id off : Nat} (h : id < n) : Lt n (.ptr id off)
  | nils (sz : Nat) : Lt n (.nils sz)
  | sl {es : List (List AV)} (h : ∀ a ∈ es.flatten, Lt n a) : Lt n (.sl es)
  | ol {id ver : Nat} (h : id < n) : Lt n (.ol id ver)
  | nilm : Lt n .nilm
  | fmap {es : List (AV × AV)} (hk : ∀ p ∈ es, Lt n p.1) (hv : ∀ p ∈ es, Lt n p.2) : Lt n (.fmap es)
  | mp {id : Nat} (h : id < n) : Lt n (.mp id)
  | fn {f : Fn} {a b : List AV} (ha : ∀ x ∈ a, Lt n x) (hb : ∀ x ∈ b, Lt n x) : Lt n (.fn f a b)
  | nilf : Lt n .nilf
  | agg {cs : List AV} (h : ∀ x ∈ cs, Lt n x) : Lt n (.agg cs)
  | tup {cs : List AV} (h : ∀ x ∈ cs, Lt n x) : Lt n (.tup cs)
  | iface {t : TypeId} {a : AV} (h : Lt n a) : Lt n (.iface t a)
  | nili : Lt n .nili
  | junk : Lt n .junk

def G.trunc (g : G) (n : Nat) : G := { g with bx := fun i => if i < n then g.bx i else none, hd := fun i v => if i < n then g.hd i v else none }

theorem mem_at {α : Type} {l : List α} {i : Nat} {a : α} (h : l[i]? = some a) : a ∈ l := List.mem_of_getElem? h

theorem RV.trunc {g : G} {n : Nat} {a : AV} {v : Value} (h : RV g a v) : Lt n a → RV (g.trunc n) a v := by
  induction h with
  | bool b => intro; exact .bool b
  | int k m => intro; exact .int k m
  | str s => intro; exact .str s
  | nilp => intro; exact .nilp
  | ptr h => intro l; cases l with | ptr l => exact .ptr (by simp [G.trunc, l, h])
  | nils sz => intro; exact .nils sz
  | sl0 a c => intro; exact .sl0 a c
  | sl f hl hn hnc hz ho hf hr ih => intro l; cases l with | sl l => exact .sl f hl hn hnc hz ho hf fun k a h => ih k a h (l a (mem_at h))
  | ol h => intro l; cases l with | ol l => exact .ol (by simp [G.trunc, l, h])
  | nilm => intro; exact .nilm
  | fmap h hl hk hv ihk ihv => intro l; cases l with | fmap l1 l2 => exact .fmap h hl (fun i p e hp he => ihk i p e hp he (l1 p (mem_at hp))) (fun i p e hp he => ihv i p e hp he (l2 p (mem_at hp)))
  | mp h => intro l; cases l with | mp l => exact .mp (by simp [G.trunc, l, h])
  | fn h1 h2 hf hc ihf ihc => intro l; cases l with | fn l1 l2 => exact .fn h1 h2 (fun i a v ha hv => ihf i a v ha hv (l1 a (mem_at ha))) (fun i a v ha hv => ihc i a v ha hv (l2 a (mem_at ha)))
  | nilf => intro; exact .nilf
  | agg hl h ih => intro l; cases l with | agg l => exact .agg hl fun i a v ha hv => ih i a v ha hv (l a (mem_at ha))
  | tup hl h ih => intro l; cases l with | tup l => exact .tup hl fun i a v ha hv => ih i a v ha hv (l a (mem_at ha))
  | iface h ih => intro l; cases l with | iface l => exact .iface (ih l)
  | nili => intro; exact .nili
  | junk v => intro; exact .junk v

/-- Ghosts that number below n. -/
def G.Below (g : G) (n : Nat) : Prop := (∀ id b, g.bx id = some b → id < n) ∧ ∀ id v x, g.hd id v = some x → id < n
theorem Sat.below {g : G} {h : List AO} {w : World} (s : Sat g h w) : g.Below h.length := by
  refine ⟨fun id b e => ?_, fun id v x e => ?_⟩
  · rcases Nat.lt_or_ge id h.length with k | k
    · exact k
    · rw [(s.past id k).1] at e; cases e
  · rcases Nat.lt_or_ge id h.length with k | k
    · exact k
    · rw [(s.past id k).2 v] at e; cases e

theorem partner {α : Type} {l : List α} {n : Nat} (h : l.length = n) {a : α} (ha : a ∈ l) : ∃ i, i < n ∧ l[i]? = some a := by
  obtain ⟨i, hi⟩ := List.mem_iff_getElem?.1 ha
  exact ⟨i, by rw [← h]; exact (List.getElem?_eq_some_iff.1 hi).1, hi⟩

theorem RV.lt {g : G} {n : Nat} (hb : g.Below n) {a : AV} {v : Value} (h : RV g a v) : Lt n a := by
  induction h with
  | bool b => exact .bool b
  | int k m => exact .int k m
  | str s => exact .str s
  | nilp => exact .nilp
  | ptr h => exact .ptr (hb.1 _ _ h)
  | nils sz => exact .nils sz
  | sl0 a c => exact .sl fun a h => by simp at h
  | sl f hl hn hnc hz ho hf hr ih => exact .sl fun a h => by obtain ⟨i, hi⟩ := List.mem_iff_getElem?.1 h; exact ih i a hi
  | ol h => exact .ol (hb.2 _ _ _ h)
  | nilm => exact .nilm
  | fmap h hl hk hv ihk ihv =>
    exact .fmap (fun p hp => by obtain ⟨i, hi, he⟩ := partner hl hp; exact ihk i p _ he (Array.getElem?_eq_getElem hi)) (fun p hp => by obtain ⟨i, hi, he⟩ := partner hl hp; exact ihv i p _ he (Array.getElem?_eq_getElem hi))
  | mp h => exact .mp (hb.1 _ _ h)
  | fn h1 h2 hf hc ihf ihc => exact .fn (fun p hp => by obtain ⟨i, hi, he⟩ := partner h1 hp; exact ihf i p _ he (Array.getElem?_eq_getElem hi)) (fun p hp => by obtain ⟨i, hi, he⟩ := partner h2 hp; exact ihc i p _ he (Array.getElem?_eq_getElem hi))
  | nilf => exact .nilf
  | agg hl h ih => exact .agg fun p hp => by obtain ⟨i, hi, he⟩ := partner hl hp; exact ih i p _ he (Array.getElem?_eq_getElem hi)
  | tup hl h ih => exact .tup fun p hp => by obtain ⟨i, hi, he⟩ := partner hl hp; exact ih i p _ he (Array.getElem?_eq_getElem hi)
  | iface h ih => exact .iface ih
  | nili => exact .nili
  | junk v => exact .junk

theorem RVs.lt {g : G} {n : Nat} (hb : g.Below n) {as : List AV} {vs : List Value} (h : RVs g as vs) : ∀ a ∈ as, Lt n a := by
  intro a ha
  obtain ⟨i, hi, he⟩ := partner h.1 ha
  exact (h.2 i a _ he (List.getElem?_eq_getElem hi)).lt hb
theorem RVs.trunc {g : G} {n : Nat} {as : List AV} {vs : List Value} (h : RVs g as vs) (hl : ∀ a ∈ as, Lt n a) : RVs (g.trunc n) as vs :=
  ⟨h.1, fun i a v ha hv => (h.2 i a v ha hv).trunc (hl a (mem_at ha))⟩

def LtO (n : Nat) : AO → Prop
  | .dead => True
  | .box cs => ∀ a ∈ cs, Lt n a
  | .lst _ _ es => ∀ a ∈ es.flatten, Lt n a
  | .mapo es => (∀ p ∈ es, Lt n p.1) ∧ ∀ p ∈ es, Lt n p.2
  | .raw _ _ => True

theorem ObjOk.ltO {g : G} {n : Nat} (hb : g.Below n) {w : World} {id : Nat} {o : AO} (h : ObjOk g w id o) : LtO n o := by
  cases o with
  | dead => trivial
  | box cs => obtain ⟨b, c, t, h1, h2, h3⟩ := h; exact h3.lt hb
  | lst ver sz es =>
    rcases h with ⟨h1, h2⟩ | ⟨b, cap, c, t, l1, l2, h1, h2, h3, h4, h5, h6, h7, h8, h9, h10⟩
    · subst h1; intro a ha; simp at ha
    · exact h9.lt hb
  | mapo es =>
    obtain ⟨b, m, ck, h1, h2, h3, h4, h5⟩ := h
    exact ⟨fun p hp => by obtain ⟨i, hi, he⟩ := partner h3 hp; exact (h4 i p _ he (Array.getElem?_eq_getElem hi)).lt hb, fun p hp => by obtain ⟨i, hi, he⟩ := partner h3 hp; exact (h5 i p _ he (Array.getElem?_eq_getElem hi)).lt hb⟩
  | raw b o => trivial
theorem ObjOk.trunc {g : G} {n : Nat} {w : World} {id : Nat} {o : AO} (h : ObjOk g w id o) (hi : id < n) (hl : LtO n o) : ObjOk (g.trunc n) w id o := by
  have bx : ∀ {b}, g.bx id = some b → (g.trunc n).bx id = some b := fun h => by simp [G.trunc, hi, h]
  have hd : ∀ {v x}, g.hd id v = some x → (g.trunc n).hd id v = some x := fun h => by simp [G.trunc, hi, h]
  cases o with
  | dead => trivial
  | box cs => obtain ⟨b, c, t, h1, h2, h3⟩ := h; exact ⟨b, c, t, bx h1, h2, h3.trunc hl⟩
  | lst ver sz es =>
    rcases h with ⟨h1, h2⟩ | ⟨b, cap, c, t, l1, l2, h1, h2, h3, h4, h5, h6, h7, h8, h9, h10⟩
    · exact .inl ⟨h1, hd h2⟩
    · exact .inr ⟨b, cap, c, t, l1, l2, hd h1, h2, h3, h4, h5, h6, h7, h8, h9.trunc hl, h10⟩
  | mapo es =>
    obtain ⟨b, m, ck, h1, h2, h3, h4, h5⟩ := h
    exact ⟨b, m, ck, bx h1, h2, h3, fun i p e hp he => (h4 i p e hp he).trunc (hl.1 p (mem_at hp)), fun i p e hp he => (h5 i p e hp he).trunc (hl.2 p (mem_at hp))⟩
  | raw b o => obtain ⟨h1, h2⟩ := h; exact ⟨bx h1, h2⟩

theorem OwnAt.untrunc {g : G} {n id b : Nat} {o : AO} (h : OwnAt (g.trunc n) id b o) : OwnAt g id b o := by
  have bx : (g.trunc n).bx id = some b → g.bx id = some b := fun h => by unfold G.trunc at h; dsimp only at h; split at h; exact h; cases h
  cases o with
  | dead => exact h
  | box cs => exact bx h
  | lst ver sz es => obtain ⟨m, c, h⟩ := h; unfold G.trunc at h; dsimp only at h; split at h; exact ⟨m, c, h⟩; cases h
  | mapo es => exact bx h
  | raw b o => exact bx h

theorem take_at {α : Type} {l : List α} {n i : Nat} {a : α} (h : (l.take n)[i]? = some a) : i < n ∧ l[i]? = some a := by
  rw [List.getElem?_take] at h
  split at h
  · rename_i hi; exact ⟨hi, h⟩
  · cases h

/-- What is above n is dropped. -/
theorem Sat.trunc {g : G} {h : List AO} {w : World} (s : Sat g h w) {n : Nat} (hn : n ≤ h.length) (hl : ∀ (id : Nat) (o : AO), h[id]? = some o → id < n → LtO n o) : Sat (g.trunc n) (h.take n) w where
  fz := s.fz
  fm := s.fm
  obj id o ho := by obtain ⟨h1, h2⟩ := take_at ho; exact (s.obj id o h2).trunc h1 (hl id o h2 h1)
  past id hi := by
    have : ¬ id < n := by simp at hi; omega
    exact ⟨by simp [G.trunc, this], fun v => by simp [G.trunc, this]⟩
  inj i j x y b hx hy ox oy := s.inj i j x y b (take_at hx).2 (take_at hy).2 ox.untrunc oy.untrunc
  apart b hb := by obtain ⟨id, o, h1, h2⟩ := hb; exact s.apart b ⟨id, o, (take_at h1).2, h2.untrunc⟩
  ver id ver sz es hv v hlt := by have := s.ver id ver sz es (take_at hv).2 v hlt; simp [G.trunc, this]

theorem Ev.trunc {g0 g : G} {h0 h : List AO} {w0 w : World} (e : Ev g0 h0 w0 g h w) (hb : g0.Below h0.length) : Ev g0 h0 w0 (g.trunc h0.length) (h.take h0.length) w where
  le := ⟨e.le.fz, e.le.fm, fun i b x => by simp [G.trunc, hb.1 i b x, e.le.bx i b x], fun i v y x => by simp [G.trunc, hb.2 i v y x, e.le.hd i v y x]⟩
  len := by have := e.len; rw [List.length_take]; omega
  size := e.size
  os := e.os
  tape := e.tape
  output := e.output
  kept := e.kept
  own b hx := by obtain ⟨id, o, h1, h2⟩ := hx; exact e.own b ⟨id, o, (take_at h1).2, h2.untrunc⟩
  fzn := e.fzn
  fmn := e.fmn

/-! ### Results -/
inductive RS where
  | t (i : Nat)
  | c (n : Nat) (ag : Bool) (i : Nat)
def cres (P : Program) : ResultVar → Option RS
  | .tmp t => some (.t t)
  | .cell a t => match szOf P t, agOf P t with
    | some n, some ag => some (.c n ag a)
    | _, _ => none
def rval (σ : St) : RS → Option AV
  | .t i => σ.a (.t i)
  | .c n ag i => match σ.x (.t i) with
    | .lp k off => match look k σ.ls with
      | some cs => match rd n ag (cs.drop off) with
        | some (.v y) => some y
        | _ => none
      | none => none
    | .v (.ptr id off) => match σ.h[id]? with
      | some (.box cs) => match rd n ag (cs.drop off) with
        | some (.v y) => some y
        | _ => none
      | _ => none
    | _ => none
def rvals (σ : St) : List RS → Option (List AV)
  | [] => some []
  | r :: l => match rval σ r with
    | some a => match rvals σ l with
      | some as => some (a :: as)
      | none => none
    | none => none
def oneR : List AV → AV
  | [a] => a
  | l => .tup l

theorem rval_ok {g0 g : G} {h0 : List AO} {w0 w : World} {lb : Nat → Nat} {σ : St} {a : Act} (s : Sim g0 h0 w0 g lb σ a w) {rv : ResultVar} {r : RS} (hc : cres P rv = some r) {y : AV} (h : rval σ r = some y)
    (f : ResultVar → Sem Value) (hf : ∀ u, f (.tmp u) = pure (a.tmps.getD u undef)) (hcell : ∀ p t, f (.cell p t) = (do loadVar t (← asAddr (a.tmps.getD p undef)))) : ∃ v, (f rv).run P w = .ok v w ∧ RV g y v := by
  cases rv with
  | tmp t =>
    cases hc
    refine ⟨a.tmps.getD t undef, by rw [hf]; simp, ?_⟩
    have := a_rv s.tm (x := .tmp t) (ax := .t t) rfl h
    exact this
  | cell p t =>
    simp only [cres] at hc
    split at hc
    · rename_i n ag hn hag
      cases hc
      have hrt := ax_rt s.tm (x := .tmp p) (ax := .t p) rfl
      have ev : a.eval (.tmp p) = a.tmps.getD p undef := rfl
      rw [ev] at hrt
      have key : ∀ {b off : Nat} {us : List Value} {cs : List AV}, a.tmps.getD p undef = .pointer (some ⟨b, off, none⟩) → (∀ (j : Nat) (u : Value), us[j]? = some u → w.cell? ⟨b, off + j, none⟩ = some u) → RVs g cs us → rd n ag cs = some (.v y) →
          ∃ v, (f (.cell p t)).run P w = .ok v w ∧ RV g y v := by
        intro b off us cs hp hus hr hrd
        obtain ⟨v, y', h1, h2, h3⟩ := run_loadAt hn hag hus hr hrd
        cases h2
        refine ⟨v, ?_, h3⟩
        rw [hcell, hp]
        simpa [Instr.loadAt, Instr.sureAddr, asAddr] using h1
      simp only [rval] at h
      split at h
      · rename_i k off hq
        split at h
        · rename_i cs hl
          split at h
          · rename_i y' hrd
            cases h
            rw [hq] at hrt
            obtain ⟨c, t', h3, h4⟩ := s.mid.lok.ok k cs hl
            exact key (us := c.toList.drop off) hrt (fun j u hj => by
              rw [cell_of_block h3]; rw [List.getElem?_drop] at hj; simpa using hj) (h4.drop off) hrd
          · cases h
        · cases h
      · rename_i id off hq
        split at h
        · rename_i cs hl
          split at h
          · rename_i y' hrd
            cases h
            rw [hq] at hrt
            obtain ⟨b, c, t', h2, h3, h4⟩ := s.mid.sat.obj _ _ hl
            have hrt : RV g (.ptr id off) (a.tmps.getD p undef) := hrt
            generalize hgv : a.tmps.getD p undef = vv at hrt
            cases hrt with
            | ptr hbx =>
              rw [h2] at hbx
              cases hbx
              exact key (us := c.toList.drop off) hgv (fun j u hj => by
                rw [cell_of_block h3]; rw [List.getElem?_drop] at hj; simpa using hj) (h4.drop off) hrd
          · cases h
        · cases h
      · cases h
    · cases hc

theorem rvals_ok {g0 g : G} {h0 : List AO} {w0 w : World} {lb : Nat → Nat} {σ : St} {a : Act} (s : Sim g0 h0 w0 g lb σ a w) (f : ResultVar → Sem Value) (hf : ∀ u, f (.tmp u) = pure (a.tmps.getD u undef)) (hcell : ∀ p t, f (.cell p t) = (do loadVar t (← asAddr (a.tmps.getD p undef)))) :
    ∀ {rvs : List ResultVar} {rs : List RS}, mapO (cres P) rvs = some rs → ∀ {ys : List AV}, rvals σ rs = some ys → ∃ vs, (rvs.mapM f).run P w = .ok vs w ∧ RVs g ys vs
  | [], rs, hc, ys, h => by cases hc; cases h; exact ⟨[], by simp, .nil g⟩
  | rv :: rvs, rs, hc, ys, h => by
    simp only [mapO] at hc
    split at hc
    · rename_i r hr
      split at hc
      · rename_i l hl
        cases hc
        simp only [rvals] at h
        split at h
        · rename_i y hy
          split at h
          · rename_i ys' hys
            cases h
            obtain ⟨v, h1, h2⟩ := rval_ok s hr hy f hf hcell
            obtain ⟨vs, h3, h4⟩ := rvals_ok s f hf hcell hl hys
            exact ⟨v :: vs, by simp [List.mapM_cons, h1, h3], .cons h2 h4⟩
          · cases h
        · cases h
      · cases hc
    · cases hc

def oneV (vs : List Value) : Value := match vs with
  | [v] => v
  | l => .tuple l.toArray
theorem oneR_rv {g : G} {ys : List AV} {vs : List Value} (h : RVs g ys vs) : RV g (oneR ys) (oneV vs) := by
  match ys, vs, h with
  | [], [], h => exact RV.tup_iff.2 h
  | [y], [v], h => exact h.2 0 y v rfl rfl
  | _ :: _ :: _, _ :: _ :: _, h => exact RV.tup_iff.2 (by simpa using h)
  | [], _ :: _, h => have := h.1; simp at this
  | _ :: _, [], h => have := h.1; simp at this
  | [_], _ :: _ :: _, h => have := h.1; simp at this
  | _ :: _ :: _, [_], h => have := h.1; simp at this
theorem results_ok {fn : Func} {rs : List RS} (hc : mapO (cres P) fn.results.toList = some rs) {g0 g : G} {h0 : List AO} {w0 w : World} {lb : Nat → Nat} {σ : St} {a : Act} (s : Sim g0 h0 w0 g lb σ a w) {ys : List AV} (h : rvals σ rs = some ys) :
    ∃ vs, (results fn a.tmps).run P w = .ok (oneV vs) w ∧ RVs g ys vs := by
  have key2 : ∀ f : ResultVar → Sem Value, (∀ u, f (.tmp u) = pure (a.tmps.getD u undef)) → (∀ p t, f (.cell p t) = (do loadVar t (← asAddr (a.tmps.getD p undef)))) →
      ∃ vs, (do let vs ← fn.results.mapM f; pure (if h : vs.size = 1 then vs[0] else .tuple vs) : Sem Value).run P w = .ok (oneV vs) w ∧ RVs g ys vs := by
    intro f hf hcell
    obtain ⟨vs, h1, h2⟩ := rvals_ok s f hf hcell hc h
    refine ⟨vs, ?_, h2⟩
    have e : fn.results = fn.results.toList.toArray := by simp
    rw [e, List.mapM_toArray, Sem.run_bind]
    simp only [Sem.run_map]
    rw [h1]
    match vs with
    | [] => rfl
    | [v] => rfl
    | _ :: _ :: _ => simp [oneV]
  unfold results
  exact key2 _ (fun u => rfl) (fun p t => rfl)
end Go.Ab
