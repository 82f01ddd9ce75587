/- Part A of an abstract machine over the kit's fenced layer: abstract values, what a value in memory means by them, and how that lasts while memory grows. Conditions: none. -/
import Derived.RangeFuncRecord
import Derived.CallsIn
import Derived.Below
import Derived.Laws.CopyRow
import Derived.Laws.Cells
import Derived.KernelRfl
set_option linter.unusedVariables false
set_option linter.unusedSimpArgs false
namespace Go.Ab

/-- Abstract values: a slice that is never written again is a list; what is shared and written lies in an abstract heap. -/
inductive AV where
  | bool (b : Bool)
  | int (k : IntKind) (n : Int)
  | str (s : ByteArray)
  | nilp
  | ptr (id off : Nat)
  | nils (sz : Nat)
  | sl (es : List (List AV))
  | ol (id ver : Nat)
  | nilm
  | fmap (es : List (AV × AV))
  | mp (id : Nat)
  | fn (f : Fn) (first cap : List AV)
  | nilf
  | agg (cs : List AV)
  | tup (vs : List AV)
  | iface (t : TypeId) (v : AV)
  | nili
  | junk
  deriving Inhabited

/-- Abstract objects. -/
inductive AO where
  | dead
  | box (cs : List AV)
  | lst (ver sz : Nat) (es : List (List AV))
  | mapo (es : List (AV × AV))
  | raw (b : Nat) (o : Obj)

/-- What ties the two: cells that are never written again, maps likewise, the blocks of boxes, the headers of lists. -/
structure G where
  fz : Nat → Nat → Option Value
  fm : Nat → Option (Array MapEntry)
  bx : Nat → Option Nat
  hd : Nat → Nat → Option (Option Addr × Nat × Nat)

structure G.Le (g g' : G) : Prop where
  fz : ∀ b o v, g.fz b o = some v → g'.fz b o = some v
  fm : ∀ b m, g.fm b = some m → g'.fm b = some m
  bx : ∀ i b, g.bx i = some b → g'.bx i = some b
  hd : ∀ i v x, g.hd i v = some x → g'.hd i v = some x

theorem G.Le.refl (g : G) : g.Le g := ⟨fun _ _ _ h => h, fun _ _ h => h, fun _ _ h => h, fun _ _ _ h => h⟩
theorem G.Le.trans {a b c : G} (h : a.Le b) (k : b.Le c) : a.Le c :=
  ⟨fun _ _ _ x => k.fz _ _ _ (h.fz _ _ _ x), fun _ _ x => k.fm _ _ (h.fm _ _ x), fun _ _ x => k.bx _ _ (h.bx _ _ x), fun _ _ _ x => k.hd _ _ _ (h.hd _ _ _ x)⟩

/-- How long a slice may be. -/
def maxN : Nat := 140737488355328

/-- Values of one cell. -/
def AV.one : AV → Bool
  | .agg _ | .tup _ | .junk => false
  | _ => true

inductive RV (g : G) : AV → Value → Prop
  | bool (b : Bool) : RV g (.bool b) (.bool b)
  | int (k : IntKind) (n : Int) : RV g (.int k n) (.int k n)
  | str (s : ByteArray) : RV g (.str s) (.string s)
  | nilp : RV g .nilp (.pointer none)
  | ptr {id off b : Nat} (h : g.bx id = some b) : RV g (.ptr id off) (.pointer (some ⟨b, off, none⟩))
  | nils (sz : Nat) : RV g (.nils sz) (.slice none 0 0)
  | sl0 (a : Option Addr) (c : Nat) : RV g (.sl []) (.slice a 0 c)
  | sl {es : List (List AV)} {b o n c sz : Nat} (f : Nat → Value) (hl : es.length = n) (hn : n ≤ maxN) (hnc : n ≤ c) (hz : ∀ e ∈ es, e.length = sz) (ho : ∀ a ∈ es.flatten, a.one = true)
      (hf : ∀ (k : Nat) (a : AV), es.flatten[k]? = some a → g.fz b (o + k) = some (f k)) (hr : ∀ (k : Nat) (a : AV), es.flatten[k]? = some a → RV g a (f k)) :
      RV g (.sl es) (.slice (some ⟨b, o, none⟩) n c)
  | ol {id ver : Nat} {a : Option Addr} {n c : Nat} (h : g.hd id ver = some (a, n, c)) : RV g (.ol id ver) (.slice a n c)
  | nilm : RV g .nilm (.map none)
  | fmap {es : List (AV × AV)} {b : Nat} {m : Array MapEntry} (h : g.fm b = some m) (hl : es.length = m.size)
      (hk : ∀ (i : Nat) (p : AV × AV) (e : MapEntry), es[i]? = some p → m[i]? = some e → RV g p.1 e.key) (hv : ∀ (i : Nat) (p : AV × AV) (e : MapEntry), es[i]? = some p → m[i]? = some e → RV g p.2 e.val) :
      RV g (.fmap es) (.map (some b))
  | mp {id b : Nat} (h : g.bx id = some b) : RV g (.mp id) (.map (some b))
  | fn {f : Fn} {first cap : List AV} {vf vc : Array Value} (h1 : first.length = vf.size) (h2 : cap.length = vc.size)
      (hf : ∀ (i : Nat) (a : AV) (v : Value), first[i]? = some a → vf[i]? = some v → RV g a v) (hc : ∀ (i : Nat) (a : AV) (v : Value), cap[i]? = some a → vc[i]? = some v → RV g a v) :
      RV g (.fn f first cap) (.func f vf vc)
  | nilf : RV g .nilf .nilFunc
  | agg {cs : List AV} {vs : Array Value} (hl : cs.length = vs.size) (h : ∀ (i : Nat) (a : AV) (v : Value), cs[i]? = some a → vs[i]? = some v → RV g a v) : RV g (.agg cs) (.agg vs)
  | tup {cs : List AV} {vs : Array Value} (hl : cs.length = vs.size) (h : ∀ (i : Nat) (a : AV) (v : Value), cs[i]? = some a → vs[i]? = some v → RV g a v) : RV g (.tup cs) (.tuple vs)
  | iface {t : TypeId} {a : AV} {v : Value} (h : RV g a v) : RV g (.iface t a) (.iface t v)
  | nili : RV g .nili .nilIface
  | junk (v : Value) : RV g .junk v

theorem RV.mono {g g' : G} (hg : g.Le g') {a : AV} {v : Value} (h : RV g a v) : RV g' a v := by
  induction h with
  | bool b => exact .bool b
  | int k n => exact .int k n
  | str s => exact .str s
  | nilp => exact .nilp
  | ptr h => exact .ptr (hg.bx _ _ h)
  | nils sz => exact .nils sz
  | sl0 a c => exact .sl0 a c
  | sl f hl hn hnc hz ho hf _ ih => exact .sl f hl hn hnc hz ho (fun k a h => hg.fz _ _ _ (hf k a h)) ih
  | ol h => exact .ol (hg.hd _ _ _ h)
  | nilm => exact .nilm
  | fmap h hl _ _ ihk ihv => exact .fmap (hg.fm _ _ h) hl ihk ihv
  | mp h => exact .mp (hg.bx _ _ h)
  | fn h1 h2 _ _ ihf ihc => exact .fn h1 h2 ihf ihc
  | nilf => exact .nilf
  | agg hl _ ih => exact .agg hl ih
  | tup hl _ ih => exact .tup hl ih
  | iface _ ih => exact .iface ih
  | nili => exact .nili
  | junk v => exact .junk v

/-- Rows of values. -/
def RVs (g : G) (as : List AV) (vs : List Value) : Prop := as.length = vs.length ∧ ∀ (i : Nat) (a : AV) (v : Value), as[i]? = some a → vs[i]? = some v → RV g a v

theorem RVs.mono {g g' : G} (hg : g.Le g') {as : List AV} {vs : List Value} (h : RVs g as vs) : RVs g' as vs :=
  ⟨h.1, fun i a v x y => (h.2 i a v x y).mono hg⟩
theorem RVs.nil (g : G) : RVs g [] [] := ⟨rfl, fun i a v h _ => by simp at h⟩
theorem RVs.cons {g : G} {a : AV} {v : Value} {as : List AV} {vs : List Value} (h : RV g a v) (hs : RVs g as vs) : RVs g (a :: as) (v :: vs) := by
  refine ⟨by simp [hs.1], fun i x y hx hy => ?_⟩
  cases i with
  | zero => simp at hx hy; subst hx; subst hy; exact h
  | succ i => simp at hx hy; exact hs.2 i x y hx hy
theorem RVs.inv {g : G} {a : AV} {as : List AV} {l : List Value} (h : RVs g (a :: as) l) : ∃ v vs, l = v :: vs ∧ RV g a v ∧ RVs g as vs := by
  cases l with
  | nil => have := h.1; simp at this
  | cons v vs => exact ⟨v, vs, rfl, h.2 0 a v (by simp) (by simp), by have := h.1; simpa using this, fun i x y hx hy => h.2 (i + 1) x y (by simpa using hx) (by simpa using hy)⟩
theorem RVs.inv_nil {g : G} {l : List Value} (h : RVs g [] l) : l = [] := List.eq_nil_of_length_eq_zero h.1.symm
theorem RVs.append {g : G} {as bs : List AV} {vs us : List Value} (h : RVs g as vs) (k : RVs g bs us) : RVs g (as ++ bs) (vs ++ us) := by
  induction as generalizing vs with
  | nil => rw [h.inv_nil]; exact k
  | cons a as ih => obtain ⟨v, vs, rfl, h1, h2⟩ := h.inv; exact .cons h1 (ih h2)
theorem RVs.at {g : G} {as : List AV} {vs : List Value} (h : RVs g as vs) {i : Nat} {a : AV} (ha : as[i]? = some a) : ∃ v, vs[i]? = some v ∧ RV g a v := by
  have hi : i < vs.length := by have := (List.getElem?_eq_some_iff.1 ha).1; have := h.1; omega
  exact ⟨vs[i], by simp [hi], h.2 i a _ ha (by simp [hi])⟩
theorem RVs.set {g : G} {as : List AV} {vs : List Value} (h : RVs g as vs) (i : Nat) {a : AV} {v : Value} (ha : RV g a v) : RVs g (as.set i a) (vs.set i v) := by
  refine ⟨by simp [h.1], fun j x y hx hy => ?_⟩
  rw [List.getElem?_set] at hx hy
  split at hx
  · rename_i e; subst e
    have := h.1
    by_cases hl : i < as.length
    · simp [hl] at hx; simp [show i < vs.length by omega] at hy; subst hx; subst hy; exact ha
    · simp [hl] at hx
  · rename_i e; simp [e] at hy; exact h.2 j x y hx hy
theorem RVs.drop {g : G} {as : List AV} {vs : List Value} (h : RVs g as vs) (n : Nat) : RVs g (as.drop n) (vs.drop n) :=
  ⟨by simp [h.1], fun i a v hx hy => h.2 (n + i) a v (by simpa [List.getElem?_drop] using hx) (by simpa [List.getElem?_drop] using hy)⟩
theorem RVs.take {g : G} {as : List AV} {vs : List Value} (h : RVs g as vs) (n : Nat) : RVs g (as.take n) (vs.take n) := by
  refine ⟨by simp [h.1], fun i a v hx hy => ?_⟩
  rw [List.getElem?_take] at hx hy
  split at hx
  · rename_i hi; simp [hi] at hy; exact h.2 i a v hx hy
  · cases hx
theorem RV.agg_iff {g : G} {cs : List AV} {vs : Array Value} : RV g (.agg cs) (.agg vs) ↔ RVs g cs vs.toList :=
  ⟨fun h => by cases h with | agg hl h => exact ⟨by simpa using hl, fun i a v hx hy => h i a v hx (by simpa using hy)⟩,
   fun h => .agg (by simpa using h.1) fun i a v hx hy => h.2 i a v hx (by simpa using hy)⟩
theorem RV.tup_iff {g : G} {cs : List AV} {vs : Array Value} : RV g (.tup cs) (.tuple vs) ↔ RVs g cs vs.toList :=
  ⟨fun h => by cases h with | tup hl h => exact ⟨by simpa using hl, fun i a v hx hy => h i a v hx (by simpa using hy)⟩,
   fun h => .tup (by simpa using h.1) fun i a v hx hy => h.2 i a v hx (by simpa using hy)⟩

theorem RV.oneCell {g : G} {a : AV} {v : Value} (h : RV g a v) (h1 : a.one = true) : v.oneCell' = true := by
  cases h <;> first | rfl | (simp [AV.one] at h1)
/-- The cells of a value. -/
def AV.cells : AV → List AV
  | .agg cs => cs
  | a => [a]

/-! ### Objects and memory -/
def ObjOk (g : G) (w : World) (id : Nat) : AO → Prop
  | .dead => True
  | .box cs => ∃ b c t, g.bx id = some b ∧ w.heap[b]? = some (.cells c t (0, 0)) ∧ RVs g cs c.toList
  | .lst ver sz es => (es = [] ∧ g.hd id ver = some (none, 0, 0)) ∨
      ∃ b cap c t l1 l2, g.hd id ver = some (some ⟨b, 0, none⟩, es.length, cap) ∧ w.heap[b]? = some (.cells c t (0, 0)) ∧ c.size = cap * sz ∧ 0 < sz ∧ es.length ≤ cap ∧
        es.length ≤ maxN ∧ (∀ e ∈ es, e.length = sz) ∧ c.toList = l1 ++ l2 ∧ RVs g es.flatten l1 ∧ (∀ a ∈ es.flatten, a.one = true)
  | .mapo es => ∃ b m ck, g.bx id = some b ∧ w.heap[b]? = some (.map m ck) ∧ es.length = m.size ∧
      (∀ (i : Nat) (p : AV × AV) (e : MapEntry), es[i]? = some p → m[i]? = some e → RV g p.1 e.key) ∧ (∀ (i : Nat) (p : AV × AV) (e : MapEntry), es[i]? = some p → m[i]? = some e → RV g p.2 e.val)
  | .raw b o => g.bx id = some b ∧ w.heap[b]? = some o

def OwnAt (g : G) (id : Nat) (b : Nat) : AO → Prop
  | .dead => False
  | .box _ | .mapo _ | .raw _ _ => g.bx id = some b
  | .lst ver _ _ => ∃ n c, g.hd id ver = some (some ⟨b, 0, none⟩, n, c)

def Owned (g : G) (h : List AO) (b : Nat) : Prop := ∃ id o, h[id]? = some o ∧ OwnAt g id b o

structure Sat (g : G) (h : List AO) (w : World) : Prop where
  fz : ∀ b o v, g.fz b o = some v → ∃ c t fr, w.heap[b]? = some (.cells c t fr) ∧ c[o]? = some v
  fm : ∀ b m, g.fm b = some m → ∃ ck, w.heap[b]? = some (.map m ck)
  obj : ∀ id o, h[id]? = some o → ObjOk g w id o
  past : ∀ id, h.length ≤ id → g.bx id = none ∧ ∀ v, g.hd id v = none
  inj : ∀ i j x y b, h[i]? = some x → h[j]? = some y → OwnAt g i b x → OwnAt g j b y → i = j
  apart : ∀ b, Owned g h b → (∀ o, g.fz b o = none) ∧ g.fm b = none
  ver : ∀ id ver sz es, h[id]? = some (.lst ver sz es) → ∀ v, ver < v → g.hd id v = none

theorem ObjOk.lt {g : G} {w : World} {id b : Nat} {o : AO} (h : ObjOk g w id o) (k : OwnAt g id b o) : b < w.heap.size := by
  have key : ∀ {x : Obj}, w.heap[b]? = some x → b < w.heap.size := fun hx => (Array.getElem?_eq_some_iff.1 hx).1
  cases o with
  | dead => exact k.elim
  | box cs => obtain ⟨b', c, t, h1, h2, _⟩ := h; have : b' = b := by rw [show OwnAt g id b (.box cs) = (g.bx id = some b) from rfl, h1] at k; injection k
              subst this; exact key h2
  | lst ver sz es =>
    obtain ⟨n, c, hk⟩ := k
    rcases h with ⟨_, h1⟩ | ⟨b', cap, c', t, l1, l2, h1, h2, _⟩
    · rw [h1] at hk; simp at hk
    · rw [h1] at hk; simp at hk; obtain ⟨rfl, _⟩ := hk; exact key h2
  | mapo es => obtain ⟨b', m, ck, h1, h2, _⟩ := h; have : b' = b := by rw [show OwnAt g id b (.mapo es) = (g.bx id = some b) from rfl, h1] at k; injection k
               subst this; exact key h2
  | raw b' o => obtain ⟨h1, h2⟩ := h; have : b' = b := by rw [show OwnAt g id b (.raw b' o) = (g.bx id = some b) from rfl, h1] at k; injection k
                subst this; exact key h2
theorem Sat.owned_lt {g : G} {h : List AO} {w : World} (s : Sat g h w) {b : Nat} (k : Owned g h b) : b < w.heap.size := by
  obtain ⟨id, o, h1, h2⟩ := k; exact (s.obj id o h1).lt h2
theorem Sat.fz_lt {g : G} {h : List AO} {w : World} (s : Sat g h w) {b o : Nat} {v : Value} (k : g.fz b o = some v) : b < w.heap.size := by
  obtain ⟨c, t, fr, h1, _⟩ := s.fz b o v k; exact (Array.getElem?_eq_some_iff.1 h1).1
theorem Sat.fm_lt {g : G} {h : List AO} {w : World} (s : Sat g h w) {b : Nat} {m : Array MapEntry} (k : g.fm b = some m) : b < w.heap.size := by
  obtain ⟨ck, h1⟩ := s.fm b m k; exact (Array.getElem?_eq_some_iff.1 h1).1

/-- What is asked of an object is asked of its own block. -/
theorem ObjOk.heap {g : G} {w w' : World} {id : Nat} {o : AO} (h : ObjOk g w id o) (k : ∀ b, OwnAt g id b o → w'.heap[b]? = w.heap[b]?) : ObjOk g w' id o := by
  cases o with
  | dead => trivial
  | box cs => obtain ⟨b, c, t, h1, h2, h3⟩ := h; exact ⟨b, c, t, h1, (k b h1).trans h2, h3⟩
  | lst ver sz es =>
    rcases h with h | ⟨b, cap, c, t, l1, l2, h1, h2, h3⟩
    · exact .inl h
    · exact .inr ⟨b, cap, c, t, l1, l2, h1, (k b ⟨_, _, h1⟩).trans h2, h3⟩
  | mapo es => obtain ⟨b, m, ck, h1, h2, h3⟩ := h; exact ⟨b, m, ck, h1, (k b h1).trans h2, h3⟩
  | raw b o => obtain ⟨h1, h2⟩ := h; exact ⟨h1, (k b h1).trans h2⟩
theorem ObjOk.mono {g g' : G} {w : World} {id : Nat} {o : AO} (hg : g.Le g') (h : ObjOk g w id o) : ObjOk g' w id o := by
  cases o with
  | dead => trivial
  | box cs => obtain ⟨b, c, t, h1, h2, h3⟩ := h; exact ⟨b, c, t, hg.bx _ _ h1, h2, h3.mono hg⟩
  | lst ver sz es =>
    rcases h with ⟨h1, h2⟩ | ⟨b, cap, c, t, l1, l2, h1, h2, h3, h4, h5, h6, h7, h8, h9⟩
    · exact .inl ⟨h1, hg.hd _ _ _ h2⟩
    · exact .inr ⟨b, cap, c, t, l1, l2, hg.hd _ _ _ h1, h2, h3, h4, h5, h6, h7, h8, h9.1.mono hg, h9.2⟩
  | mapo es => obtain ⟨b, m, ck, h1, h2, h3, h4, h5⟩ := h; exact ⟨b, m, ck, hg.bx _ _ h1, h2, h3, fun i p e a c => (h4 i p e a c).mono hg, fun i p e a c => (h5 i p e a c).mono hg⟩
  | raw b o => obtain ⟨h1, h2⟩ := h; exact ⟨hg.bx _ _ h1, h2⟩
theorem OwnAt.mono {g g' : G} {id b : Nat} {o : AO} (hg : g.Le g') (h : OwnAt g id b o) : OwnAt g' id b o := by
  cases o with
  | dead => exact h
  | box cs => exact hg.bx _ _ h
  | lst ver sz es => obtain ⟨n, c, h⟩ := h; exact ⟨n, c, hg.hd _ _ _ h⟩
  | mapo es => exact hg.bx _ _ h
  | raw b o => exact hg.bx _ _ h
/-- An object that is in order owns, after ghosts have grown, what it owned. -/
theorem OwnAt.back {g g' : G} {w : World} {id b : Nat} {o : AO} (hg : g.Le g') (ho : ObjOk g w id o) (h : OwnAt g' id b o) : OwnAt g id b o := by
  cases o with
  | dead => exact h
  | box cs => obtain ⟨b', c, t, h1, _⟩ := ho; have h2 : g'.bx id = some b := h; rw [hg.bx _ _ h1] at h2; injection h2 with e; subst e; exact h1
  | lst ver sz es =>
    obtain ⟨n, c, h⟩ := h
    rcases ho with ⟨_, h2⟩ | ⟨b', cap, c', t, l1, l2, h1, _⟩
    · rw [hg.hd _ _ _ h2] at h; simp at h
    · rw [hg.hd _ _ _ h1] at h; simp at h; obtain ⟨rfl, rfl, rfl⟩ := h; exact ⟨_, _, h1⟩
  | mapo es => obtain ⟨b', c, t, h1, _⟩ := ho; have h2 : g'.bx id = some b := h; rw [hg.bx _ _ h1] at h2; injection h2 with e; subst e; exact h1
  | raw b' o => obtain ⟨h1, _⟩ := ho; have h2 : g'.bx id = some b := h; rw [hg.bx _ _ h1] at h2; injection h2 with e; subst e; exact h1

/-- Memory turns where nothing is said of it. -/
theorem Sat.heap {g : G} {h : List AO} {w w' : World} (s : Sat g h w)
    (k : ∀ b, b < w.heap.size → (Owned g h b ∨ (∃ o, g.fz b o ≠ none) ∨ g.fm b ≠ none) → w'.heap[b]? = w.heap[b]?) : Sat g h w' where
  fz b o v hv := by
    obtain ⟨c, t, fr, h1, h2⟩ := s.fz b o v hv
    exact ⟨c, t, fr, (k b (Array.getElem?_eq_some_iff.1 h1).1 (.inr (.inl ⟨o, by simp [hv]⟩))).trans h1, h2⟩
  fm b m hv := by
    obtain ⟨ck, h1⟩ := s.fm b m hv
    exact ⟨ck, (k b (Array.getElem?_eq_some_iff.1 h1).1 (.inr (.inr (by simp [hv])))).trans h1⟩
  obj id o ho := (s.obj id o ho).heap fun b hb => k b (s.owned_lt ⟨id, o, ho, hb⟩) (.inl ⟨id, o, ho, hb⟩)
  past := s.past
  inj := s.inj
  apart := s.apart
  ver := s.ver

/-- What a stretch of a run leaves as it was. -/
structure Ev (g0 : G) (h0 : List AO) (w0 : World) (g : G) (h : List AO) (w : World) : Prop where
  le : g0.Le g
  len : h0.length ≤ h.length
  size : w0.heap.size ≤ w.heap.size
  os : w.os = w0.os
  tape : w.tape = w0.tape
  output : w.output = w0.output
  kept : ∀ b, b < w0.heap.size → ¬ Owned g0 h0 b → w.heap[b]? = w0.heap[b]?
  own : ∀ b, Owned g h b → Owned g0 h0 b ∨ w0.heap.size ≤ b
  fzn : ∀ b o, g.fz b o ≠ none → g0.fz b o ≠ none ∨ Owned g0 h0 b ∨ w0.heap.size ≤ b
  fmn : ∀ b, g.fm b ≠ none → g0.fm b ≠ none ∨ Owned g0 h0 b ∨ w0.heap.size ≤ b

theorem Ev.refl (g : G) (h : List AO) (w : World) : Ev g h w g h w :=
  ⟨.refl g, Nat.le_refl _, Nat.le_refl _, rfl, rfl, rfl, fun _ _ _ => rfl, fun _ h => .inl h, fun _ _ h => .inl h, fun _ h => .inl h⟩
theorem Ev.trans {g0 g1 g2 : G} {h0 h1 h2 : List AO} {w0 w1 w2 : World} (a : Ev g0 h0 w0 g1 h1 w1) (b : Ev g1 h1 w1 g2 h2 w2) : Ev g0 h0 w0 g2 h2 w2 where
  le := a.le.trans b.le
  len := Nat.le_trans a.len b.len
  size := Nat.le_trans a.size b.size
  os := b.os.trans a.os
  tape := b.tape.trans a.tape
  output := b.output.trans a.output
  kept x hx hn := (b.kept x (Nat.lt_of_lt_of_le hx a.size) fun ho => by
    rcases a.own x ho with h | h
    · exact hn h
    · omega).trans (a.kept x hx hn)
  own x hx := by
    rcases b.own x hx with h | h
    · exact a.own x h
    · exact .inr (Nat.le_trans a.size h)
  fzn x o hx := by
    rcases b.fzn x o hx with h | h | h
    · exact a.fzn x o h
    · exact .inr (a.own x h)
    · exact .inr (.inr (Nat.le_trans a.size h))
  fmn x hx := by
    rcases b.fmn x hx with h | h | h
    · exact a.fmn x h
    · exact .inr (a.own x h)
    · exact .inr (.inr (Nat.le_trans a.size h))

end Go.Ab
