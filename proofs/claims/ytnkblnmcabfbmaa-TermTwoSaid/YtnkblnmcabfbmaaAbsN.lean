/- Part N: regions, in the order of their text and in whatever order. Conditions: none. -/
import Derived.Test.YtnkblnmcabfbmaaAbsM
import Derived.OrdersIn
set_option linter.unusedVariables false
set_option linter.unusedSimpArgs false
namespace Go.Ab
open Go.RowKit

variable {P : Program}

/-- The same, but for what has been told twice. -/
theorem Sim.same {g0 g : G} {h0 : List AO} {w0 w : World} {lb : Nat → Nat} {σ : St} {a : Act} (s : Sim g0 h0 w0 g lb σ a w) {j : Nat} {x : TV} (h : tg j σ.t.l = x) : Sim g0 h0 w0 g lb { σ with t := σ.t.set j x } a w := by
  have key : ∀ i, tg i (σ.t.set j x).l = tg i σ.t.l := fun i => by
    unfold Ts.set
    split
    · dsimp only
      rw [tg_cons]
      split
      · rename_i e; subst e; exact h.symm
      · rfl
    · rfl
  have kn : (σ.t.set j x).n = σ.t.n := by unfold Ts.set; split <;> rfl
  exact ⟨s.mid, ⟨kn.trans s.tm.len, fun i => by rw [key]; exact s.tm.at_ i, fun i d off hi => s.tm.live i d off (by rw [← key]; exact hi)⟩, s.df, s.rk⟩

theorem yielded_bool {ops : Array Oper} {g : G} {lb : Nat → Nat} {ls : List (Nat × List AV)} {t : Ts} {tmps : Array Value} (T : Tm g lb ls t tmps) {jj d : Nat} {p : Oper} (hp : ops[jj]? = some p) (hd : p.dst = some d) {b : Bool} (hb : tg d t.l = .v (.bool b)) : yielded ops tmps jj = some b := by
  have h1 := T.at_ d
  rw [hb] at h1
  have h3 : RV g (.bool b) (tmps.getD d undef) := h1
  generalize hvv : tmps.getD d undef = vv at h3
  cases h3
  have h4 : tmps[d]? = some (.bool b) := by
    rw [Array.getD_eq_getD_getElem?] at hvv
    cases hx : tmps[d]? with
    | none => rw [hx] at hvv; cases hvv
    | some y => rw [hx] at hvv; simp at hvv; rw [hvv]
  unfold yielded
  rw [hp]
  simp only [Option.bind_some, hd, h4]
theorem yielded_und {ops : Array Oper} {g : G} {lb : Nat → Nat} {ls : List (Nat × List AV)} {t : Ts} {tmps : Array Value} (T : Tm g lb ls t tmps) {jj d : Nat} {p : Oper} (hp : ops[jj]? = some p) (hd : p.dst = some d) (hb : tg d t.l = .und) : yielded ops tmps jj = none := by
  have h1 := T.at_ d
  rw [hb] at h1
  have h3 : tmps.getD d undef = undef := h1
  unfold yielded
  rw [hp]
  simp only [Option.bind_some, hd]
  rw [Array.getD_eq_getD_getElem?] at h3
  cases hx : tmps[d]? with
  | none => rfl
  | some y => rw [hx] at h3; simp at h3; rw [h3]; rfl
/-- One operation, its guard looked at. -/
theorem runG_ok {ro : Option Nat} {esc own : List Nat} {dr : Bool} {ops : Array Oper} {o : Oper} {i : AI} (hc : cai P esc own dr ops o = some i) {j : Nat} (hj : ops[j]? = some o) {k : St → Prop} {Q : Out → St → Prop} {σ : St} (hr : runG (CC P) i k Q σ)
    {g0 g : G} {h0 : List AO} {w0 w : World} {lb : Nat → Nat} {a : Act} (s : Sim g0 h0 w0 g lb σ a w) {K : Act → World → Prop} (hK : ∀ σ' g' lb' a' w', k σ' → Sim g0 h0 w0 g' lb' σ' a' w' → K a' w') :
    wpOpIn (Wf ro) 0 P ops (Lift g0 h0 w0 Q) j K a w := by
  unfold cai at hc
  split at hc
  · rename_i ak gg hak hgg
    cases hc
    unfold wpOpIn
    rw [hj]
    dsimp only
    unfold runG at hr
    unfold guardOf at hgg
    cases hgd : o.guard with
    | none =>
      rw [hgd] at hgg
      cases hgg
      have hw : Region.wanted o (yielded ops a.tmps) = true := by simp [Region.wanted, hgd]
      rw [if_pos hw]
      exact runI_ok (ops := ops) (esc := esc) (own := own) (o := o) (i := ⟨o.dst, ak, none, _⟩) hak rfl hr s hK
    | some jw =>
      obtain ⟨jj, w'⟩ := jw
      rw [hgd] at hgg
      dsimp only at hgg
      split at hgg
      · rename_i p hp
        split at hgg
        · rename_i d hd
          cases hgg
          dsimp only at hr
          split at hr
          · rename_i b hb
            have hy := yielded_bool (ops := ops) s.tm hp hd hb
            by_cases e : b = w'
            · subst e
              rw [if_pos rfl] at hr
              have hw : Region.wanted o (yielded ops a.tmps) = true := by simp [Region.wanted, hgd, hy]
              rw [if_pos hw]
              exact runI_ok (ops := ops) (esc := esc) (own := own) (o := o) (i := ⟨o.dst, ak, _, _⟩) hak rfl hr (s.same hb) hK
            · rw [if_neg e] at hr
              have hw : ¬ Region.wanted o (yielded ops a.tmps) = true := by simp [Region.wanted, hgd, hy, e]
              rw [if_neg hw]
              have eb : b = !w' := by cases b <;> cases w' <;> simp_all
              exact ⟨fun _ _ => trivial, hK _ g lb _ _ hr ((s.same (eb ▸ hb)).put o.dst rfl fun _ _ e => by cases e)⟩
          · rename_i hb
            have hy := yielded_und (ops := ops) s.tm hp hd hb
            have hw : ¬ Region.wanted o (yielded ops a.tmps) = true := by simp [Region.wanted, hgd, hy]
            rw [if_neg hw]
            exact ⟨fun _ _ => trivial, hK _ g lb _ _ hr (s.put o.dst rfl fun _ _ e => by cases e)⟩
          · exact hr.elim
        · cases hgg
      · cases hgg
  · cases hc

/-- A region and its small form. -/
structure Comp (P : Program) (esc own : List Nat) (dr : Bool) (ops : Array Oper) (is : List AI) : Prop where
  len : is.length = ops.size
  at_ : ∀ (i : Nat) (o : Oper) (x : AI), ops[i]? = some o → is[i]? = some x → cai P esc own dr ops o = some x

theorem awr_runG {CC : CallP} {i : AI} {r : List AI} {Q : Out → St → Prop} {σ : St} (h : awr CC (i :: r) Q σ) : runG CC i (awr CC r Q) Q σ := h

theorem awr_ok {ro : Option Nat} {esc own : List Nat} {dr : Bool} {ops : Array Oper} {is : List AI} (hc : Comp P esc own dr ops is) {Q : Out → St → Prop} {g0 : G} {h0 : List AO} {w0 : World} :
    ∀ (r : List AI) (k n : Nat), k + r.length = n → is.drop k = r → ∀ (σ : St) (g : G) (lb : Nat → Nat) (a : Act) (w : World), awr (CC P) r Q σ → Sim g0 h0 w0 g lb σ a w →
      wpOpsIn (Wf ro) 0 P ops (Lift g0 h0 w0 Q) (List.range' k r.length) a w
  | [], k, n, hn, hd, σ, g, lb, a, w, h, s => ⟨.normal, σ, g, lb, rfl, s, h⟩
  | i :: r, k, n, hn, hd, σ, g, lb, a, w, h, s => by
    have hi : is[k]? = some i := by have := congrArg (·[0]?) hd; simpa using this
    have hk : k < ops.size := by rw [← hc.len]; exact (List.getElem?_eq_some_iff.1 hi).1
    have ho := Array.getElem?_eq_getElem hk
    have e : List.range' k (i :: r).length = k :: List.range' (k + 1) r.length := by simp [List.range'_succ]
    rw [e, wpOpsIn_cons]
    refine runG_ok (hc.at_ k _ i ho hi) ho (awr_runG h) s fun σ' g' lb' a' w' hq s' => ?_
    refine awr_ok hc r (k + 1) n (by simp at hn; omega) ?_ σ' g' lb' a' w' hq s'
    have : is.drop (k + 1) = (is.drop k).drop 1 := by rw [List.drop_drop]
    rw [this, hd]; rfl
  termination_by r => r.length

theorem reg_ok {ro : Option Nat} {esc own : List Nat} {dr : Bool} {id : Nat} {ops : Array Oper} {is : List AI} (hc : Comp P esc own dr ops is) {Q : Out → St → Prop} {g0 : G} {h0 : List AO} {w0 : World} {σ : St} {g : G} {lb : Nat → Nat} {a : Act} {w : World}
    (h : awr (CC P) is Q σ) (s : Sim g0 h0 w0 g lb σ a w) : (Code.region id ops false).wpIn (Wf ro) 0 P (Lift g0 h0 w0 Q) a w := by
  refine wpIn_region ?_
  have := awr_ok (ro := ro) hc is 0 _ rfl rfl σ g lb a w h s
  rw [hc.len] at this
  rwa [List.range_eq_range']

theorem rdy_eq {esc own : List Nat} {ops : Array Oper} {is : List AI} (hc : Comp P esc own true ops is) (listed : Array Bool) : Region.ready .any ops listed = rdy is listed := by
  unfold Region.ready rdy
  rw [← hc.len]
  apply List.filter_congr
  intro i hi
  have hi1 : i < is.length := List.mem_range.1 hi
  have hi2 : i < ops.size := by rw [← hc.len]; exact hi1
  have h1 := Array.getElem?_eq_getElem hi2
  have h2 := List.getElem?_eq_getElem hi1
  rw [h1, h2]
  have h3 := hc.at_ i _ _ h1 h2
  unfold cai at h3
  split at h3
  · have h4 : is[i].af = (ops[i].after.toList.filter (Region.binds .any)).map (·.on) := by
      have := congrArg (Option.map AI.af) h3
      simpa using this.symm
    simp only [Option.map_some, Option.getD_some]
    rw [h4, List.all_map, List.all_filter]
    congr 1
    rw [← Array.all_toList]
    rfl
  · cases h3

theorem Eqv.sim {σ τ : St} (k : Eqv σ τ) {g0 g : G} {h0 : List AO} {w0 w : World} {lb : Nat → Nat} {a : Act} (s : Sim g0 h0 w0 g lb σ a w) : Sim g0 h0 w0 g lb τ a w := by
  obtain ⟨⟨l, m, e⟩, t, d, r⟩ := s
  have kl : ∀ {d cs}, look d τ.ls = some cs → look d σ.ls = some cs := fun h => (k.ls _).trans h
  refine ⟨⟨⟨fun d cs h => l.ok d cs (kl h), fun d cs h => l.new d cs (kl h), fun d cs h => ?_, fun d cs h => l.fz d cs (kl h), fun d cs h => l.fm d cs (kl h), fun d d' cs cs' h h' => l.inj d d' cs cs' (kl h) (kl h')⟩, k.h ▸ m, k.h ▸ e⟩, ⟨k.n ▸ t.len, fun i => k.t i ▸ t.at_ i, fun i d off h => ?_⟩, ?_, k.h ▸ r⟩
  · rw [← k.h]; exact l.own d cs (kl h)
  · rw [← k.ls]; exact t.live i d off ((k.t i).trans h)
  · rw [← k.h, ← k.ds]; exact d
theorem stepK_run {i : AI} {σ σ' : St} (h : stepK (CC P) i σ σ') {k : St → Prop} {Q : Out → St → Prop} (hk : k σ') : runI (CC P) i k Q σ := by
  obtain ⟨d, ak, g, af⟩ := i
  unfold stepK at h
  unfold runI
  cases ak with
  | o op => obtain ⟨x, σ1, h1, rfl⟩ := h; dsimp only at h1 ⊢; rw [h1]; exact hk
  | fo op => exact h.elim
  | call f args =>
    obtain ⟨c, as, v, h1, h2, h3, rfl⟩ := h
    dsimp only
    rw [h1, h2]
    exact CC.mono (fun r H' e => by obtain ⟨rfl, rfl⟩ := e; exact hk) h3
  | callW f args =>
    obtain ⟨c, as, v, h, h1, h2, h3, rfl⟩ := h
    dsimp only
    rw [h1, h2]
    exact CC.mono (fun r H' e => by obtain ⟨rfl, rfl⟩ := e; exact hk) h3
  | pan x => exact h.elim
theorem Eqv.same (σ : St) {j : Nat} {x : TV} (h : tg j σ.t.l = x) : Eqv σ { σ with t := σ.t.set j x } := by
  refine ⟨?_, fun i => ?_, fun _ => rfl, rfl, rfl⟩
  · show σ.t.n = (σ.t.set j x).n
    unfold Ts.set; split <;> rfl
  · show tg i σ.t.l = tg i (σ.t.set j x).l
    unfold Ts.set
    split
    · dsimp only
      rw [tg_cons]
      split
      · rename_i e; subst e; exact h
      · rfl
    · rfl

theorem stepG_ok {ro : Option Nat} {esc own : List Nat} {dr : Bool} {ops : Array Oper} {o : Oper} {i : AI} (hc : cai P esc own dr ops o = some i) {j : Nat} (hj : ops[j]? = some o) {σ σ' : St} (hr : stepG (CC P) i σ σ')
    {g0 g : G} {h0 : List AO} {w0 w : World} {lb : Nat → Nat} {a : Act} (s : Sim g0 h0 w0 g lb σ a w) {Q : Out → St → Prop} {K : Act → World → Prop} (hK : ∀ g' lb' a' w', Sim g0 h0 w0 g' lb' σ' a' w' → K a' w') :
    wpOpIn (Wf ro) 0 P ops (Lift g0 h0 w0 Q) j K a w := by
  unfold cai at hc
  split at hc
  · rename_i ak gg hak hgg
    cases hc
    unfold wpOpIn
    rw [hj]
    dsimp only
    unfold stepG at hr
    unfold guardOf at hgg
    cases hgd : o.guard with
    | none =>
      rw [hgd] at hgg
      cases hgg
      have hw : Region.wanted o (yielded ops a.tmps) = true := by simp [Region.wanted, hgd]
      rw [if_pos hw]
      have hr2 := stepK_run hr (k := fun τ => τ = σ') (Q := Q) rfl
      exact runI_ok (ops := ops) (esc := esc) (own := own) (o := o) hak rfl hr2 s fun τ g' lb' a' w' e s' => hK g' lb' a' w' (e ▸ s')
    | some jw =>
      obtain ⟨jj, w'⟩ := jw
      rw [hgd] at hgg
      dsimp only at hgg
      split at hgg
      · rename_i p hp
        split at hgg
        · rename_i d hd
          cases hgg
          dsimp only at hr
          have skip : yielded ops a.tmps jj ≠ some w' → σ' = σ.put o.dst .und → (if Region.wanted o (yielded ops a.tmps) = true then o.wpIn (Wf ro) 0 P a w K (Lift g0 h0 w0 Q) else (∀ f, o.about P w a.eval = some f → (Wf ro).fn f) ∧ K (a.put o.dst undef) w) := fun hy hr => by
            have hw : ¬ Region.wanted o (yielded ops a.tmps) = true := by simpa [Region.wanted, hgd] using hy
            rw [if_neg hw]
            exact ⟨fun _ _ => trivial, hK g lb _ _ (hr ▸ s.put o.dst rfl fun _ _ e => by cases e)⟩
          rcases hr with ⟨hb, hr⟩ | ⟨hb | hb, hr⟩
          · have hy := yielded_bool (ops := ops) s.tm hp hd hb
            have hw : Region.wanted o (yielded ops a.tmps) = true := by simp [Region.wanted, hgd, hy]
            rw [if_pos hw]
            have hr2 := stepK_run hr (k := fun τ => τ = σ') (Q := Q) rfl
            exact runI_ok (ops := ops) (esc := esc) (own := own) (o := o) hak rfl hr2 s fun τ g' lb' a' w' e s' => hK g' lb' a' w' (e ▸ s')
          · have hy := yielded_bool (ops := ops) s.tm hp hd hb
            exact skip (by rw [hy]; simp) hr
          · have hy := yielded_und (ops := ops) s.tm hp hd hb
            exact skip (by rw [hy]; simp) hr
        · cases hgg
      · cases hgg
  · cases hc

theorem awAny_ok {ro : Option Nat} {esc own : List Nat} {ops : Array Oper} {is : List AI} (hc : Comp P esc own true ops is) {Q : Out → St → Prop} {g0 : G} {h0 : List AO} {w0 : World} :
    ∀ (n : Nat) (l : Array Bool) (σ : St) (g : G) (lb : Nat → Nat) (a : Act) (w : World), awAny (CC P) is (Q .normal) n l σ → Sim g0 h0 w0 g lb σ a w →
      wpAnyIn (Wf ro) 0 P .any ops (Lift g0 h0 w0 Q) n l a w
  | 0, l, σ, g, lb, a, w, h, s => ⟨by rw [rdy_eq hc]; exact h.1, by obtain ⟨τ, h1, h2⟩ := h.2; exact ⟨.normal, τ, g, lb, rfl, h1.sim s, h2⟩⟩
  | n + 1, l, σ, g, lb, a, w, h, s => by
    refine ⟨fun hr => ?_, fun i hi => ?_⟩
    · obtain ⟨τ, h1, h2⟩ := h.1 (by rw [← rdy_eq hc]; exact hr)
      exact ⟨.normal, τ, g, lb, rfl, h1.sim s, h2⟩
    · rw [rdy_eq hc] at hi
      have hi1 : i < is.length := by unfold rdy at hi; exact List.mem_range.1 (List.mem_filter.1 hi).1
      have hi2 : i < ops.size := by rw [← hc.len]; exact hi1
      have h1 := Array.getElem?_eq_getElem hi2
      have h2 := List.getElem?_eq_getElem hi1
      obtain ⟨σ', h3, h4⟩ := h.2 i hi _ h2
      exact stepG_ok (hc.at_ i _ _ h1 h2) h1 h3 s fun g' lb' a' w' s' => awAny_ok hc n _ σ' g' lb' a' w' h4 s'

theorem Sim.drew {g0 g : G} {h0 : List AO} {w0 w : World} {lb : Nat → Nat} {σ : St} {a : Act} (s : Sim g0 h0 w0 g lb σ a w) : Sim g0 h0 w0 g lb σ a { w with drawn := w.drawn + 1 } := by
  refine ⟨s.mid.step (w' := { w with drawn := w.drawn + 1 }) (s.mid.sat.heap fun _ _ _ => rfl) ?_, s.tm, s.df, s.rk⟩
  exact ⟨.refl g, Nat.le_refl _, Nat.le_refl _, rfl, rfl, rfl, fun _ _ _ => rfl, fun _ h => .inl h, fun _ _ h => .inl h, fun _ h => .inl h⟩

theorem dreg_ok {ro : Option Nat} {esc own : List Nat} {id : Nat} {ops : Array Oper} {is : List AI} (hm : P.follows .mixedOrders = true) (hc : Comp P esc own true ops is) {Q : Out → St → Prop} {g0 : G} {h0 : List AO} {w0 : World} {σ : St} {g : G} {lb : Nat → Nat} {a : Act} {w : World}
    (h : LiveS σ → awAny (CC P) is (Q .normal) is.length (Array.replicate is.length false) σ) (s : Sim g0 h0 w0 g lb σ a w) : (Code.region id ops true).wpIn (Wf ro) 0 P (Lift g0 h0 w0 Q) a w := by
  refine wpIn_region_any hm ?_
  rw [← hc.len]
  exact awAny_ok hc _ _ σ g lb a _ (h s.tm.live) s.drew
end Go.Ab
