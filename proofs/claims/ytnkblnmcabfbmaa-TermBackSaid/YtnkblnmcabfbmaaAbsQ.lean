/- Part Q: a function's contract from an abstract run of its body. Conditions: none. -/
import Derived.Test.YtnkblnmcabfbmaaAbsP
import Derived.Shelf.Abstract
set_option linter.unusedVariables false
set_option linter.unusedSimpArgs false
namespace Go.Ab
open Go.RowKit

variable {P : Program}

def LtR (n : Nat) : Res → Prop
  | .ret a => Lt n a
  | .pan a => Lt n a

/-- Marks come off. -/
def clean : List AO → List Nat → List AO
  | h, [] => h
  | h, i :: ds => clean (h.set i .dead) ds

/-- What must hold where a function is left. -/
def fin1 (H : List AO) (Post : Res → List AO → Prop) (r : Res) (h : List AO) : Prop :=
  LtR H.length r ∧ (∀ (id : Nat) (o : AO), h[id]? = some o → id < H.length → H[id]? = some o ∨ LtO H.length o) ∧ Post r (h.take H.length)
def fin2 (H : List AO) (Post : Res → List AO → Prop) (rs : List RS) : Out → St → Prop
  | .normal, σ | .ret, σ => ∃ l, rvals σ rs = some l ∧ fin1 H Post (.ret (oneR (frzL H.length l σ.h).1)) (frzL H.length l σ.h).2
  | .pan v, σ => fin1 H Post (.pan v) σ.h
  | .exit _, _ => False
def fin (H : List AO) (Post : Res → List AO → Prop) (rs : List RS) (o : Out) (σ : St) : Prop :=
  (∀ i ∈ σ.ds, H.length ≤ i) ∧ σ.ds.Nodup ∧ fin2 H Post rs o { σ with h := clean σ.h σ.ds, ds := [] }

theorem Dfs.set {h : List AO} {i : Nat} (x : AO) : ∀ {ds : List Nat} {l : List Deferred}, i ∉ ds → Dfs h ds l → Dfs (h.set i x) ds l
  | [], _, _, k => k
  | j :: ds, _, hn, ⟨b, r, e, hj, k⟩ => ⟨b, r, e, by rw [List.getElem?_set_ne (by rintro rfl; simp at hn)]; exact hj, Dfs.set x (by simp at hn; exact hn.2) k⟩

theorem leaves_marks {fn : Func} {tmps : Array Value} {u : FrameMode} (hu : u ≠ .run) {R : Ending → World → Prop} {g0 : G} {h0 : List AO} {w0 : World} :
    ∀ (ds : List Nat) (σ : St) (g : G) (lb : Nat → Nat) (a : Act) (w : World), σ.ds = ds → Sim g0 h0 w0 g lb σ a w → a.tmps = tmps → ds.Nodup → (∀ i ∈ ds, h0.length ≤ i) →
      (∀ (a' : Act) (w' : World), Sim g0 h0 w0 g lb { σ with h := clean σ.h ds, ds := [] } a' w' → a'.tmps = tmps → LeavesInM Fence.wide 0 P fn tmps R [] u w') → LeavesInM Fence.wide 0 P fn tmps R a.defers u w
  | [], σ, g, lb, a, w, hd, s, ht, _, _, hf => by
    have h1 := s.df
    rw [hd] at h1
    rw [show a.defers = [] from h1]
    refine hf a w ?_ ht
    have : ({ σ with h := clean σ.h [], ds := [] } : St) = σ := by cases σ; cases hd; rfl
    rw [this]; exact s
  | i :: ds, σ, g, lb, a, w, hd, s, ht, hn, hi, hf => by
    have h1 := s.df
    rw [hd] at h1
    obtain ⟨b, r, e, hb, hr⟩ := h1
    rw [e]
    have ho := s.mid.sat.obj _ _ hb
    refine ⟨hu, .inl ⟨b, w.putObj b (.deferred none), rfl, run_takeDeferred ho.2, ?_⟩⟩
    obtain ⟨s1, e1⟩ := s.mid.sat.upd (g' := g) (w' := w.putObj b (.deferred none)) (o' := .dead) hb (.refl g) rfl rfl rfl (fun _ _ => rfl) (Wd.putObj w b _ ho.1) trivial (fun _ h => h.elim) (fun _ _ _ h => by cases h)
    have hil : h0.length ≤ i := hi i (by simp)
    have s2 : Sim g0 h0 w0 g lb { σ with h := σ.h.set i .dead, ds := ds } { a with defers := r } (w.putObj b (.deferred none)) :=
      ⟨s.mid.step s1 e1, s.tm, Dfs.set _ (List.nodup_cons.1 hn).1 hr, fun j c l x => by
        have := (List.getElem?_eq_some_iff.1 x).1
        show (σ.h.set i .dead)[j]? = _
        rw [List.getElem?_set_ne (by omega)]; exact s.rk j c l x⟩
    exact leaves_marks hu ds _ g lb _ _ rfl s2 ht (List.nodup_cons.1 hn).2 (fun j hj => hi j (by simp [hj])) hf

theorem fin1_ok {g0 g : G} {H h : List AO} {w0 w : World} (hs0 : Sat g0 H w0) (st : Sat g h w) (ev : Ev g0 H w0 g h w) (rk : RawK H h) {Post : Res → List AO → Prop} {r : Res} (hf : fin1 H Post r h) {e : Ending} (hr : RRes g r e) :
    Behind g0 H w0 Post e w := by
  obtain ⟨h1, h2, h5⟩ := hf
  have hb := hs0.below
  have hLtO : ∀ (id : Nat) (o : AO), h[id]? = some o → id < H.length → LtO H.length o := fun id o ho hi => by
    rcases h2 id o ho hi with k | k
    · exact (hs0.obj id o k).ltO hb
    · exact k
  refine ⟨_, r, _, ev.trunc hb, st.trunc ev.len hLtO, ?_, fun i b l x => ?_, h5⟩
  · cases r with
    | ret y => obtain ⟨v, he, hv⟩ := hr; exact ⟨v, he, hv.trunc h1⟩
    | pan y => obtain ⟨v, he, hv⟩ := hr; exact ⟨v, he, hv.trunc h1⟩
  · have := rk i b l x
    rw [List.getElem?_take, if_pos (List.getElem?_eq_some_iff.1 x).1]
    exact this

theorem fin_ok {fn : Func} {g0 : G} {H : List AO} {w0 : World} (hs0 : Sat g0 H w0) {rs : List RS} (hc : mapO (cres P) fn.results.toList = some rs) {Post : Res → List AO → Prop} (e : Exit) (a : Act) (w : World)
    (h : Lift g0 H w0 (fin H Post rs) e a w) : bodyPostM Fence.wide 0 P fn (Behind g0 H w0 Post) e a w := by
  obtain ⟨o, σ, g, lb, h1, s, h2, h3, h4⟩ := h
  have ret : (∃ l, rvals { σ with h := clean σ.h σ.ds, ds := [] } rs = some l ∧ fin1 H Post (.ret (oneR (frzL H.length l (clean σ.h σ.ds)).1)) (frzL H.length l (clean σ.h σ.ds)).2) → LeavesInM Fence.wide 0 P fn a.tmps (Behind g0 H w0 Post) a.defers .returning w := by
    rintro ⟨l, hl, hf⟩
    refine leaves_marks (by simp) σ.ds σ g lb a w rfl s rfl h3 h2 fun a' w' s' ht => ?_
    obtain ⟨vs, hv, hr⟩ := results_ok hc s' hl
    rw [ht] at hv
    obtain ⟨g2, k1, k2⟩ := frzL_ok s'.mid.sat hr (show frzL H.length l (clean σ.h σ.ds) = ((frzL H.length l (clean σ.h σ.ds)).1, (frzL H.length l (clean σ.h σ.ds)).2) from rfl)
    exact ⟨_, hv, fin1_ok hs0 k1.sat (s'.mid.ev.trans k1.ev) (s'.rk.trans (RawK.of k1.raw)) hf ⟨_, rfl, oneR_rv k2⟩⟩
  cases o with
  | normal => cases (show e = .normal from h1); exact ret h4
  | ret => cases (show e = .ret from h1); exact ret h4
  | exit i => exact h4.elim
  | pan y =>
    obtain ⟨v, rfl, hv⟩ := h1
    have h4 : fin1 H Post (.pan y) (clean σ.h σ.ds) := h4
    exact leaves_marks (by simp) σ.ds σ g lb a w rfl s rfl h3 h2 fun a' w' s' ht => fin1_ok hs0 s'.mid.sat s'.mid.ev s'.rk h4 ⟨v, rfl, hv⟩

/-- No slice is too long. -/
inductive Bd : AV → Prop
  | sl {es : List (List AV)} (hl : es.length ≤ maxN) (h : ∀ a ∈ es.flatten, Bd a) : Bd (.sl es)
  | agg {cs : List AV} (h : ∀ x ∈ cs, Bd x) : Bd (.agg cs)
  | tup {cs : List AV} (h : ∀ x ∈ cs, Bd x) : Bd (.tup cs)
  | other {a : AV} (h : (match a with | .sl _ | .agg _ | .tup _ => false | _ => true) = true) : Bd a
theorem RV.bd {g : G} {a : AV} {v : Value} (h : RV g a v) : Bd a := by
  induction h with
  | sl0 a c => exact .sl (by simp) fun a h => by simp at h
  | sl f hl hn hnc hz ho hf hr ih => exact .sl (by omega) fun a h => by obtain ⟨i, hi⟩ := List.mem_iff_getElem?.1 h; exact ih i a hi
  | agg hl h ih => exact .agg fun p hp => by obtain ⟨i, hi, he⟩ := partner hl hp; exact ih i p _ he (Array.getElem?_eq_getElem hi)
  | tup hl h ih => exact .tup fun p hp => by obtain ⟨i, hi, he⟩ := partner hl hp; exact ih i p _ he (Array.getElem?_eq_getElem hi)
  | _ => exact .other rfl
theorem RVs.bd {g : G} {l : List AV} {vs : List Value} (h : RVs g l vs) : ∀ a ∈ l, Bd a := by
  intro a ha
  obtain ⟨i, hi, he⟩ := partner h.1 ha
  exact (h.2 i a _ he (List.getElem?_eq_getElem hi)).bd
theorem Bd.sl_iff {es : List (List AV)} : Bd (.sl es) ↔ es.length ≤ maxN ∧ ∀ e ∈ es, ∀ a ∈ e, Bd a := by
  refine ⟨fun h => ?_, fun h => .sl h.1 fun a ha => ?_⟩
  · cases h with
    | sl h1 h2 => exact ⟨h1, fun e he a ha => h2 a (List.mem_flatten.2 ⟨e, he, ha⟩)⟩
    | other h => cases h
  · obtain ⟨e, he, h2⟩ := List.mem_flatten.1 ha
    exact h.2 e he a h2
theorem Bd.agg_iff {cs : List AV} : Bd (.agg cs) ↔ ∀ a ∈ cs, Bd a := by
  refine ⟨fun h => ?_, .agg⟩
  cases h with
  | agg h => exact h
  | other h => cases h

/-- Arguments, in their temporaries. -/
def ini : Nat → List AV → List (Nat × TV)
  | _, [] => []
  | k, a :: r => (k, .v a) :: ini (k + 1) r
theorem tg_ini_lt : ∀ (l : List AV) (k i : Nat), i < k → tg i (ini k l) = .junk
  | [], _, _, _ => rfl
  | a :: r, k, i, h => by rw [ini, tg_cons, if_neg (by omega)]; exact tg_ini_lt r (k + 1) i (by omega)
theorem tg_ini_at : ∀ (l : List AV) (k i : Nat), tg (k + i) (ini k l) = match l[i]? with | some a => .v a | none => .junk
  | [], _, _ => rfl
  | a :: r, k, 0 => by rw [ini, tg_cons, if_pos (by omega)]; rfl
  | a :: r, k, i + 1 => by rw [ini, tg_cons, if_neg (by omega), show k + (i + 1) = (k + 1) + i from by omega, tg_ini_at r (k + 1) i]; simp
theorem tg_ini (l : List AV) (i : Nat) : tg i (ini 0 l) = match l[i]? with | some a => .v a | none => .junk := by
  have := tg_ini_at l 0 i
  rwa [Nat.zero_add] at this

/-- A run of the code; no unfolding by mistake. -/
@[irreducible] def Run (CC : CallP) (c : AC) (Q : Out → St → Prop) (σ : St) : Prop := awp CC c Q σ
theorem Run.of {CC : CallP} {c : AC} {Q : Out → St → Prop} {σ : St} (h : awp CC c Q σ) : Run CC c Q σ := by unfold Run; exact h
theorem Run.out {CC : CallP} {c : AC} {Q : Out → St → Prop} {σ : St} (h : Run CC c Q σ) : awp CC c Q σ := by unfold Run at h; exact h
/-- A function's contract. -/
theorem callsA_of {k : FuncId} {fn : Func} {ac : AC} {esc own : List Nat} {rs : List RS} {nt : Nat} (hf : P.funcs[k]? = some fn) (hname : (fn.name == "runtime.NumGoroutine") = false) (hbc : fn.body.bind (ccode P esc own) = some ac) (hm : P.follows .mixedOrders = true)
    (hr : mapO (cres P) fn.results.toList = some rs) (hn : fn.ntmps = nt) {xs : List AV} {H : List AO} {Post : Res → List AO → Prop}
    (h : (∀ a ∈ xs, Bd a) → (∀ a ∈ xs, Lt H.length a) → Run (CC P) ac (fin H Post rs) ⟨⟨nt, ini 0 xs⟩, [], H, []⟩) (hx : xs.length ≤ nt := by simp) : CallsA P k xs H Post := by
  obtain ⟨c, hb, hc⟩ : ∃ c, fn.body = some c ∧ ccode P esc own c = some ac := by
    cases hb : fn.body with
    | none => rw [hb] at hbc; cases hbc
    | some c => rw [hb] at hbc; exact ⟨c, rfl, hbc⟩
  refine ⟨fun args w => Proofs.enters_of hf hname hb args w, fun g w vs s r => callsIn_of_wp_marks hf hb trivial ?_⟩
  refine wpIn_mono (awp_ok (ro := none) hm c ac hc (fin H Post rs) ⟨⟨nt, ini 0 xs⟩, [], H, []⟩ g (fun _ => 0) _ w (h r.bd (r.lt s.below)).out ?_) (fin_ok s hr)
  refine ⟨⟨⟨by (intro d cs h; cases h), by (intro d cs h; cases h), by (intro d cs h; cases h), by (intro d cs h; cases h), by (intro d cs h; cases h), by (intro d d' cs cs' h; cases h)⟩, s, .refl g H w⟩, ⟨?_, fun i => ?_, fun i d off hi => ?_⟩, rfl, .refl H⟩
  · have := r.1
    simp [hn, this]; omega
  · dsimp only
    rw [tg_ini]
    cases ha : xs[i]? with
    | none => trivial
    | some y =>
      obtain ⟨v, hv, hr⟩ := r.at ha
      have hl : i < vs.length := (List.getElem?_eq_some_iff.1 hv).1
      have : (vs.toArray ++ Array.replicate (fn.ntmps - vs.toArray.size) undef).getD i undef = v := by
        rw [Array.getD_eq_getD_getElem?, Array.getElem?_append_left (by simpa using hl)]
        simp [hv]
      rw [this]
      exact hr
  · dsimp only at hi
    rw [tg_ini] at hi
    cases ha : xs[i]? with
    | none => rw [ha] at hi; cases hi
    | some y => rw [ha] at hi; cases hi

def O (d : Nat) (o : AOp) : AI := ⟨some d, .o o, none, []⟩
def Og (d j : Nat) (w : Bool) (o : AOp) : AI := ⟨some d, .o o, some (j, w), []⟩
def C (d : Nat) (f : AX) (l : List AX) : AI := ⟨some d, .call f l, none, []⟩
def N (n : Int) : AX := .c (.int .i64 n)
def B (b : Bool) : AX := .c (.bool b)
end Go.Ab
