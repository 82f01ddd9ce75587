/- Part M: regions, statements, calls. Conditions: none. -/
import Derived.Test.YtnkblnmcabfbmaaAbsL
import Derived.RangeFuncLeaves
import Derived.RangeFuncCalls
set_option linter.unusedVariables false
set_option linter.unusedSimpArgs false
namespace Go.Ab
open Go.RowKit

variable {P : Program}

/-- The widest fence; in a round of a range over a function, that round's. -/
def Wf (ro : Option Nat) : Fence := { Fence.wide with round := ro }
theorem Wf_none : Wf none = Fence.wide := rfl
theorem Wf_fn (ro : Option Nat) (f : FuncId) : (Wf ro).fn f := trivial
theorem Wf_room (ro : Option Nat) (n : Nat) : (Wf ro).room n := fun d h => by simp [Wf, Fence.wide] at h
theorem Wf_calls {ro : Option Nat} {n : Nat} {f : FuncId} {args : Array Value} {w : World} {R : Ending → World → Prop} (h : CallsIn Fence.wide n P f args w R) : CallsIn (Wf ro) n P f args w R := by
  cases ro with
  | none => exact h
  | some l => exact CallsIn.inRound l h

/-- Blocks for deferred calls stand. -/
def RawK (h h' : List AO) : Prop := ∀ (i b : Nat) (l : Option (List Deferred)), h[i]? = some (.raw b (.deferred l)) → h'[i]? = some (.raw b (.deferred l))
theorem RawK.refl (h : List AO) : RawK h h := fun _ _ _ x => x
theorem RawK.trans {a b c : List AO} (h : RawK a b) (k : RawK b c) : RawK a c := fun i x l y => k i x l (h i x l y)

def RRes (g : G) : Res → Ending → Prop
  | .ret a, e => ∃ v, e = .returned v ∧ RV g a v
  | .pan a, e => ∃ v, e = .panicked [{ v, recovered := false }] ∧ RV g a v

def Behind (g : G) (H : List AO) (w : World) (Post : Res → List AO → Prop) (e : Ending) (w' : World) : Prop :=
  ∃ g' res H', Ev g H w g' H' w' ∧ Sat g' H' w' ∧ RRes g' res e ∧ RawK H H' ∧ Post res H'

/-- What a call of function k comes to. -/
def CallsA (P : Program) (k : FuncId) (as : List AV) (H : List AO) (Post : Res → List AO → Prop) : Prop :=
  (∀ args w, (callFunc k args).run P w = .ok (.enter k args) w) ∧
  ∀ g w vs, Sat g H w → RVs g as vs → CallsIn Fence.wide 0 P k vs.toArray w (Behind g H w Post)
/-- What a call of a loop's yield comes to. -/
def YieldA (P : Program) (l : Nat) (as : List AV) (H : List AO) (Post : Res → List AO → Prop) : Prop :=
  ∀ g w vs, Sat g H w → RVs g as vs → ∃ f tmps asg body, (Instr.yield l vs.toArray).run P w = .ok (.round l f tmps asg body) w ∧ RoundIn Fence.wide 0 P l f tmps asg body w (Behind g H w Post)
def CC (P : Program) : CallP := fun f as H Post =>
  match f with
  | .fn (.func k) first cap => CallsA P k (first ++ as ++ cap) H Post
  | .fn (.yield l) [] [] => YieldA P l as H Post
  | _ => False

theorem Behind.mono {g : G} {H : List AO} {w : World} {Post Post' : Res → List AO → Prop} (h : ∀ r H', Post r H' → Post' r H') {e : Ending} {w' : World} (k : Behind g H w Post e w') : Behind g H w Post' e w' := by
  obtain ⟨g', res, H', h1, h2, h3, h4, h5⟩ := k; exact ⟨g', res, H', h1, h2, h3, h4, h _ _ h5⟩
theorem CC.mono {f : AV} {as : List AV} {H : List AO} {Post Post' : Res → List AO → Prop} (h : ∀ r H', Post r H' → Post' r H') (k : CC P f as H Post) : CC P f as H Post' := by
  unfold CC at k ⊢
  split at k
  · exact ⟨k.1, fun g w vs s r => (k.2 g w vs s r).mono fun e w' => Behind.mono h⟩
  · intro g w vs s r
    obtain ⟨f, tmps, asg, body, h1, h2⟩ := k g w vs s r
    exact ⟨f, tmps, asg, body, h1, h2.mono fun e w' => Behind.mono h⟩
  · exact k.elim

/-- Marks of loops over functions among the deferred calls. -/
def Dfs (h : List AO) : List Nat → List Deferred → Prop
  | [], l => l = []
  | i :: ds, l => ∃ b r, l = { target := .collected b, args := #[] } :: r ∧ h[i]? = some (.raw b (.deferred (some []))) ∧ Dfs h ds r
theorem Dfs.mono {h h' : List AO} (k : RawK h h') : ∀ {ds : List Nat} {l : List Deferred}, Dfs h ds l → Dfs h' ds l
  | [], _, x => x
  | _ :: _, _, ⟨b, r, e, hi, x⟩ => ⟨b, r, e, k _ _ _ hi, Dfs.mono k x⟩

structure Sim (g0 : G) (h0 : List AO) (w0 : World) (g : G) (lb : Nat → Nat) (σ : St) (a : Act) (w : World) : Prop where
  mid : Mid g0 h0 w0 g lb σ.ls σ.h w
  tm : Tm g lb σ.ls σ.t a.tmps
  df : Dfs σ.h σ.ds a.defers
  rk : RawK h0 σ.h

def OutRel (g : G) : Out → Exit → Prop
  | .normal, e => e = .normal
  | .exit i, e => e = .exit i
  | .ret, e => e = .ret
  | .pan a, e => ∃ v, e = .panic [{ v, recovered := false }] ∧ RV g a v
def Lift (g0 : G) (h0 : List AO) (w0 : World) (Q : Out → St → Prop) (e : Exit) (a : Act) (w : World) : Prop :=
  ∃ o σ g lb, OutRel g o e ∧ Sim g0 h0 w0 g lb σ a w ∧ Q o σ

theorem Tm.put {g : G} {lb : Nat → Nat} {ls : List (Nat × List AV)} {t : Ts} {a : Act} (T : Tm g lb ls t a.tmps) (d : Option Nat) {x : TV} {v : Value} (hx : RT g lb x v) (hl : ∀ k off, x = .lp k off → look k ls ≠ none) :
    Tm g lb ls (match d with | some d => t.set d x | none => t) (a.put d v).tmps := by
  cases d with
  | none => exact T
  | some d =>
    have e1 : (a.put (some d) v).tmps = a.tmps.setIfInBounds d v := rfl
    rw [e1]
    unfold Ts.set
    dsimp only
    by_cases hd : d < t.n
    · rw [if_pos hd]
      have hd2 : d < a.tmps.size := by rw [← T.len]; exact hd
      refine ⟨by simp [T.len], fun i => ?_, fun i k off hi => ?_⟩
      · rw [tg_cons]
        by_cases e : d = i
        · subst e
          simp [hd2]; exact hx
        · rw [if_neg e]
          have := T.at_ i
          simp [Array.getD_eq_getD_getElem?, Array.getElem?_setIfInBounds_ne e] at this ⊢
          exact this
      · rw [tg_cons] at hi
        by_cases e : d = i
        · rw [if_pos e] at hi; exact hl k off hi
        · rw [if_neg e] at hi; exact T.live i k off hi
    · rw [if_neg hd]
      have hd2 : a.tmps.size ≤ d := by rw [← T.len]; omega
      have : a.tmps.setIfInBounds d v = a.tmps := by
        apply Array.ext (by simp)
        intro i h1 h2
        rw [Array.getElem_setIfInBounds]
        split
        · omega
        · rfl
      rw [this]
      exact T
theorem Sim.put {g0 g : G} {h0 : List AO} {w0 w : World} {lb : Nat → Nat} {σ : St} {a : Act} (s : Sim g0 h0 w0 g lb σ a w) (d : Option Nat) {x : TV} {v : Value} (hx : RT g lb x v) (hl : ∀ k off, x = .lp k off → look k σ.ls ≠ none) : Sim g0 h0 w0 g lb (σ.put d x) (a.put d v) w := by
  have T := s.tm.put d hx hl
  cases d with
  | none => exact s
  | some d => exact ⟨s.mid, T, by simpa [St.put, Act.put] using s.df, s.rk⟩
theorem RawK.of {h h' : List AO} (k : ∀ (i b : Nat) (o : Obj), h[i]? = some (.raw b o) → h'[i]? = some (.raw b o)) : RawK h h' := fun i b l x => k i b _ x

/-- One plain operation. -/
theorem evo_sim {esc own : List Nat} {o : Oper} {op : AOp} (hc : cop P esc own o = some op) {σ σ1 : St} {x : TV} (he : evo (o.dst.getD 0) op σ = some (x, σ1)) {g0 g : G} {h0 : List AO} {w0 w : World} {lb : Nat → Nat} {a : Act} (s : Sim g0 h0 w0 g lb σ a w) :
    ∃ v w', ((execOp a.eval o).run P w = .ok (.value v) w' ∨ ((execOp a.eval o).run P w = .ok .skip w' ∧ v = undef)) ∧ ∃ g' lb', Sim g0 h0 w0 g' lb' (σ1.put o.dst x) (a.put o.dst v) w' := by
  obtain ⟨v, w', g', lb', h1, h2, h3, h4, h5, h6, h7⟩ := op_ok hc he g0 h0 w0 g lb a w s.mid s.tm
  refine ⟨v, w', h1, g', lb', ?_⟩
  have rk := RawK.of h3.raw
  have s1 : Sim g0 h0 w0 g' lb' σ1 a w' := ⟨h2, by rw [h6]; exact s.tm.mono h3, by rw [h7]; exact s.df.mono rk, s.rk.trans rk⟩
  exact s1.put o.dst h4 h5

theorem semAt_eq {ro : Option Nat} {ρ : Operand → Value} {o : Oper} (h : ∀ c, o.op ≠ .defer c) : o.semAt ro ρ = execOp ρ o := by
  unfold Oper.semAt
  split
  · rename_i c hc; exact absurd hc (h c)
  · rfl
theorem cop_defer {esc own : List Nat} {o : Oper} {op : AOp} (hc : cop P esc own o = some op) : ∀ c, o.op ≠ .defer c := by
  intro c e; unfold cop at hc; rw [e] at hc; cases hc

theorem cak_inv {esc own : List Nat} {o : Oper} {k : AK} (hc : cak P esc own o = some k) :
    (∃ x ax, o.op = .panic x ∧ cx x = some ax ∧ k = .pan ax) ∨ (∃ f0 args0 ats f args, o.op = .call { callee := .value f0, args := args0, argTypes := ats } ∧ cx f0 = some f ∧ cxs args0.toList = some args ∧ (k = .call f args ∨ k = .callW f args)) ∨ ∃ op, cop P esc own o = some op ∧ (k = .o op ∨ k = .fo op) := by
  unfold cak at hc
  split at hc
  · rename_i x ho
    obtain ⟨ax, hx, rfl⟩ := map_some hc
    exact .inl ⟨x, ax, ho, hx, rfl⟩
  · rename_i f l ts ho
    split at hc
    · rename_i f' l' h1 h2
      cases hc
      refine .inr (.inl ⟨f, l, ts, f', l', ho, h1, h2, ?_⟩)
      split
      · exact .inr rfl
      · exact .inl rfl
    · cases hc
  · obtain ⟨op, hop, rfl⟩ := map_some hc
    refine .inr (.inr ⟨op, hop, ?_⟩)
    split
    · exact .inr rfl
    · exact .inl rfl

/-- One operation, whatever comes behind it. -/
theorem runI_ok {ro : Option Nat} {esc own : List Nat} {ops : Array Oper} {o : Oper} {i : AI} (hc : cak P esc own o = some i.k) (hd : i.d = o.dst) {k : St → Prop} {Q : Out → St → Prop} {σ : St} (hr : runI (CC P) i k Q σ)
    {g0 g : G} {h0 : List AO} {w0 w : World} {lb : Nat → Nat} {a : Act} (s : Sim g0 h0 w0 g lb σ a w) {K : Act → World → Prop} (hK : ∀ σ' g' lb' a' w', k σ' → Sim g0 h0 w0 g' lb' σ' a' w' → K a' w') :
    o.wpIn (Wf ro) 0 P a w K (Lift g0 h0 w0 Q) := by
  refine ⟨fun _ _ => trivial, ?_⟩
  rcases cak_inv hc with ⟨x, ax, ho, hx, hk⟩ | ⟨f0, args0, ats, f, args, ho, hf, hargs, hk⟩ | ⟨op, hop, hk⟩
  · rw [semAt_eq (fun c e => by rw [ho] at e; cases e)]
    unfold runI at hr
    rw [hk] at hr
    dsimp only at hr
    split at hr
    · rename_i t v hv
      have h1 := a_rv s.tm hx hv
      generalize hgx : a.eval x = xv at h1
      cases h1 with
      | iface h1 =>
        rename_i u
        have : (execOp a.eval o).run P w = .halt (.panic (.iface t u)) w := by simp [execOp, ho, hgx, Instr.panic, goPanic, Sem.run]
        rw [this]
        exact ⟨.pan (.iface t v), σ, g, lb, ⟨_, rfl, .iface h1⟩, s, hr⟩
    · exact hr.elim
  · rw [semAt_eq (fun c e => by rw [ho] at e; cases e)]
    have hr : (match σ.a f, σ.as args with
        | some c, some as => CC P c as σ.h (kont k Q i.d σ)
        | _, _ => False) := by
      unfold runI at hr
      rcases hk with hk | hk <;> rw [hk] at hr <;> exact hr
    split at hr
    · rename_i c as hcv has
      have h1 := a_rv s.tm hf hcv
      have h2 := as_rvs s.tm hargs has
      generalize hgf : a.eval f0 = fv at h1
      unfold CC at hr
      have cont : ∀ {e : Ending} {w' : World}, Behind g σ.h w (kont k Q i.d σ) e w' → (match e, w' with
          | .returned v, w'' => K (a.put o.dst v) w''
          | .panicked chain, w'' => Lift g0 h0 w0 Q (.panic chain) a w''
          | .outgrown, _ => LetsOut (Lift g0 h0 w0 Q)) := by
        rintro e w' ⟨g', res, H', h3, h4, h5, h6, h7⟩
        have s1 : Sim g0 h0 w0 g' lb { σ with h := H' } a w' := ⟨s.mid.step h4 h3, s.tm.mono (ls' := σ.ls) (h := []) (h' := []) ⟨h3.le, fun _ _ => rfl, fun _ h => h, fun _ _ _ h => h⟩, s.df.mono h6, s.rk.trans h6⟩
        cases res with
        | ret y =>
          obtain ⟨v, rfl, h8⟩ := h5
          rw [← hd]
          exact hK _ g' lb _ _ h7 (s1.put i.d h8 fun k off e => by cases e)
        | pan y =>
          obtain ⟨v, rfl, h8⟩ := h5
          exact ⟨.pan y, _, g', lb, ⟨v, rfl, h8⟩, s1, h7⟩
      split at hr
      · rename_i kf first cap
        cases h1 with
        | fn h8 h9 h10 h11 =>
          rename_i vf vc
          obtain ⟨hent, hcalls⟩ := hr
          have hargsR : RVs g (first ++ as ++ cap) ((vf.toList ++ args0.toList.map a.eval) ++ vc.toList) := by
            refine RVs.append (RVs.append ⟨by simpa using h8, fun i a v ha hv => h10 i a v ha (by simpa using hv)⟩ h2) ⟨by simpa using h9, fun i a v ha hv => h11 i a v ha (by simpa using hv)⟩
          have hcall := hcalls g w _ s.mid.sat hargsR
          have e1 : ((vf.toList ++ args0.toList.map a.eval) ++ vc.toList).toArray = vf ++ args0.map a.eval ++ vc := by
            apply Array.ext'
            simp
          rw [e1] at hcall
          have : (execOp a.eval o).run P w = .ok (.enter kf (vf ++ args0.map a.eval ++ vc)) w := by
            simp [execOp, ho, resolve, Deferred.ofValue, hgf, invoke, hent]
          rw [this]
          exact ⟨fun h => by simp [Wf, Fence.wide] at h, (Wf_calls hcall).mono fun e w' hb => by have := cont hb; cases e <;> exact this⟩
      · rename_i l
        cases h1 with
        | fn h8 h9 h10 h11 =>
          rename_i vf vc
          have hvf : vf = #[] := by apply Array.eq_empty_of_size_eq_zero; simpa using h8.symm
          have hvc : vc = #[] := by apply Array.eq_empty_of_size_eq_zero; simpa using h9.symm
          subst hvf; subst hvc
          obtain ⟨f', tmps, asg, body, h12, h13⟩ := hr g w _ s.mid.sat h2
          have e1 : (args0.toList.map a.eval).toArray = args0.map a.eval := by apply Array.ext'; simp
          rw [e1] at h12
          have : (execOp a.eval o).run P w = .ok (.round l f' tmps asg body) w := by
            simp [execOp, ho, resolve, Deferred.ofValue, hgf, invoke, h12]
          rw [this]
          refine ⟨fun h => by simp [Wf, Fence.wide] at h, ?_⟩
          have h14 : RoundIn (Wf ro) (0 - 1) P l f' tmps asg body w (Behind g σ.h w (kont k Q i.d σ)) := by
            cases ro with
            | none => exact h13
            | some l0 => exact h13
          exact h14.mono fun e w' hb => by have := cont hb; cases e <;> exact this
      · exact hr.elim
    · exact hr.elim
  · rw [semAt_eq (cop_defer hop)]
    unfold runI at hr
    rcases hk with hk | hk
    · rw [hk] at hr
      dsimp only at hr
      split at hr
      · rename_i x σ1 he
        rw [hd] at he hr
        obtain ⟨v, w', h1, g', lb', h2⟩ := evo_sim hop he s
        rcases h1 with h1 | ⟨h1, rfl⟩
        · rw [h1]; exact hK _ g' lb' _ _ hr h2
        · rw [h1]; exact hK _ g' lb' _ _ hr h2
      · exact hr.elim
    · rw [hk] at hr
      dsimp only at hr
      split at hr
      · rename_i x σ1 he
        rw [hd] at he hr
        obtain ⟨v, w', g', lb', h1, h2, h3, h4, h5, h6, h7⟩ := op_ok hop he g0 h0 w0 g lb a w s.mid s.tm
        obtain ⟨g2, k1, k2⟩ := frz1_ok h2.sat (show RV g' x v from h4) (show frz1 0 x σ1.h = ((frz1 0 x σ1.h).1, (frz1 0 x σ1.h).2) from rfl)
        have rk := RawK.of h3.raw
        have rk2 := RawK.of k1.raw
        have s1 : Sim g0 h0 w0 g2 lb' { σ1 with h := (frz1 0 x σ1.h).2 } a w' :=
          ⟨h2.step k1.sat k1.ev, by rw [h6]; exact (s.tm.mono h3).mono (ls' := σ1.ls) (h := σ1.h) (h' := σ1.h) ⟨k1.ev.le, fun _ _ => rfl, fun _ h => h, fun _ _ _ h => h⟩, by rw [h7]; exact (s.df.mono rk).mono rk2, (s.rk.trans rk).trans rk2⟩
        have s2 := s1.put o.dst (x := .v (frz1 0 x σ1.h).1) (v := v) k2 (fun k off e => by cases e)
        rcases h1 with h1 | ⟨h1, rfl⟩
        · rw [h1]; exact hK _ g2 lb' _ _ hr s2
        · rw [h1]; exact hK _ g2 lb' _ _ hr s2
      · exact hr.elim
end Go.Ab
