/- Part O: statements. Conditions: none. -/
import Derived.Test.YtnkblnmcabfbmaaAbsN
import Derived.ControlIn
import Derived.Sort.LoopGhostIn
set_option linter.unusedVariables false
set_option linter.unusedSimpArgs false
namespace Go.Ab
open Go.RowKit

variable {P : Program}

def ccode (P : Program) (esc own : List Nat) : Code → Option AC
  | .skip => some .skip
  | .label _ => some .skip
  | .region _ ops draw => (mapO (cai P esc own draw ops) ops.toList).map fun is => if draw then .dreg is else .reg is
  | .seq a b => match ccode P esc own a, ccode P esc own b with
    | some a, some b => some (.seq a b)
    | _, _ => none
  | .cond x a b => match cx x, ccode P esc own a, ccode P esc own b with
    | some x, some a, some b => some (.cond x a b)
    | _, _, _ => none
  | .block id c => (ccode P esc own c).map (.block id)
  | .loop c => (ccode P esc own c).map .loop
  | .rangeFunc f ps asg body => match cx f, ccode P esc own asg, ccode P esc own body with
    | some f, some a, some b => some (.rf f ps.toList a b)
    | _, _, _ => none
  | .exit id => some (.exit id)
  | .ret => some .ret
  | .scope _ | .goto _ | .refuse _ => none

def thenQ (K : St → Prop) (Q : Out → St → Prop) : Out → St → Prop
  | .normal, σ => K σ
  | o, σ => Q o σ
def blk (id : Nat) (Q : Out → St → Prop) : Out → St → Prop
  | .exit i, σ => if i = id then Q .normal σ else Q (.exit i) σ
  | o, σ => Q o σ

/-- A state of which less is said: some temporaries are forgotten, local variables that nothing points to are dropped. -/
structure Wk (σ τ : St) : Prop where
  t : τ.t.n = σ.t.n ∧ ∀ (i : Nat), tg i τ.t.l = .junk ∨ tg i τ.t.l = tg i σ.t.l
  ls : ∀ d cs, look d τ.ls = some cs → look d σ.ls = some cs
  live : ∀ (i d off : Nat), tg i τ.t.l = .lp d off → look d τ.ls ≠ none
  h : τ.h = σ.h
  ds : τ.ds = σ.ds

theorem Wk.sim {σ τ : St} (k : Wk σ τ) {g0 g : G} {h0 : List AO} {w0 w : World} {lb : Nat → Nat} {a : Act} (s : Sim g0 h0 w0 g lb σ a w) : Sim g0 h0 w0 g lb τ a w := by
  obtain ⟨⟨l, m, e⟩, t, d, r⟩ := s
  refine ⟨⟨⟨fun d cs h => l.ok d cs (k.ls d cs h), fun d cs h => l.new d cs (k.ls d cs h), fun d cs h => ?_, fun d cs h => l.fz d cs (k.ls d cs h), fun d cs h => l.fm d cs (k.ls d cs h), fun d d' cs cs' h h' => l.inj d d' cs cs' (k.ls d cs h) (k.ls d' cs' h')⟩, k.h ▸ m, k.h ▸ e⟩, ⟨by rw [k.t.1, t.len], fun i => ?_, k.live⟩, ?_, k.h ▸ r⟩
  · rw [k.h]; exact l.own d cs (k.ls d cs h)
  · rcases k.t.2 i with h | h
    · rw [h]; trivial
    · rw [h]; exact t.at_ i
  · rw [k.h, k.ds]; exact d

def awp (CC : CallP) : AC → (Out → St → Prop) → St → Prop
  | .skip, Q, σ => Q .normal σ
  | .reg is, Q, σ => awr CC is Q σ
  | .dreg is, Q, σ => LiveS σ → awAny CC is (Q .normal) is.length (Array.replicate is.length false) σ
  | .seq a b, Q, σ => awp CC a (thenQ (awp CC b Q) Q) σ
  | .cond x a b, Q, σ => match σ.a x with
    | some (.bool p) => if p = true then awp CC a Q σ else awp CC b Q σ
    | _ => False
  | .block id c, Q, σ => awp CC c (blk id Q) σ
  | .loop c, Q, σ => ∃ (ι : Type) (I : ι → St) (μ : ι → Nat) (i0 : ι), Wk σ (I i0) ∧ ∀ i, awp CC c (thenQ (fun σ1 => ∃ j, μ j < μ i ∧ Wk σ1 (I j)) Q) (I i)
  | .rf f ps asg body, Q, σ => False
  | .exit id, Q, σ => Q (.exit id) σ
  | .ret, Q, σ => Q .ret σ

theorem Lift.then {g0 : G} {h0 : List AO} {w0 : World} {K : St → Prop} {Q : Out → St → Prop} {K' : Act → World → Prop}
    (hK : ∀ σ g lb a w, K σ → Sim g0 h0 w0 g lb σ a w → K' a w) (e : Exit) (a : Act) (w : World) (h : Lift g0 h0 w0 (thenQ K Q) e a w) : Exit.then K' (Lift g0 h0 w0 Q) e a w := by
  obtain ⟨o, σ, g, lb, h1, h2, h3⟩ := h
  cases o with
  | normal => cases (show e = .normal from h1); exact hK _ _ _ _ _ h3 h2
  | exit i => cases (show e = .exit i from h1); exact ⟨.exit i, σ, g, lb, rfl, h2, h3⟩
  | ret => cases (show e = .ret from h1); exact ⟨.ret, σ, g, lb, rfl, h2, h3⟩
  | pan v => obtain ⟨u, rfl, h4⟩ := h1; exact ⟨.pan v, σ, g, lb, ⟨u, rfl, h4⟩, h2, h3⟩
theorem Lift.blk {g0 : G} {h0 : List AO} {w0 : World} {Q : Out → St → Prop} {id : Nat} (e : Exit) (a : Act) (w : World) (h : Lift g0 h0 w0 (blk id Q) e a w) : Exit.inBlock id (Lift g0 h0 w0 Q) e a w := by
  obtain ⟨o, σ, g, lb, h1, h2, h3⟩ := h
  cases o with
  | normal => cases (show e = .normal from h1); exact ⟨.normal, σ, g, lb, rfl, h2, h3⟩
  | exit i =>
    cases (show e = .exit i from h1)
    simp only [Go.Ab.blk] at h3
    by_cases hi : i = id
    · subst hi
      rw [if_pos rfl] at h3
      simp only [Exit.inBlock, if_true]
      exact ⟨.normal, σ, g, lb, rfl, h2, h3⟩
    · rw [if_neg hi] at h3
      simp only [Exit.inBlock, hi, if_false]
      exact ⟨.exit i, σ, g, lb, rfl, h2, h3⟩
  | ret => cases (show e = .ret from h1); exact ⟨.ret, σ, g, lb, rfl, h2, h3⟩
  | pan v => obtain ⟨u, rfl, h4⟩ := h1; exact ⟨.pan v, σ, g, lb, ⟨u, rfl, h4⟩, h2, h3⟩

theorem comp_of {esc own : List Nat} {dr : Bool} {ops : Array Oper} {is : List AI} (h : mapO (cai P esc own dr ops) ops.toList = some is) : Comp P esc own dr ops is := by
  obtain ⟨h1, h2⟩ := mapO_spec h
  exact ⟨by simpa using h1, fun i o x ho hx => h2 i o x (by simpa using ho) hx⟩

theorem awp_ok {ro : Option Nat} (hm : P.follows .mixedOrders = true) {esc own : List Nat} {g0 : G} {h0 : List AO} {w0 : World} : ∀ (c : Code) (ac : AC), ccode P esc own c = some ac → ∀ (Q : Out → St → Prop) (σ : St) (g : G) (lb : Nat → Nat) (a : Act) (w : World),
    awp (CC P) ac Q σ → Sim g0 h0 w0 g lb σ a w → c.wpIn (Wf ro) 0 P (Lift g0 h0 w0 Q) a w := by
  intro c
  induction c with
  | skip => intro ac hc Q σ g lb a w h s; cases hc; exact wpIn_skip ⟨.normal, σ, g, lb, rfl, s, h⟩
  | label l => intro ac hc Q σ g lb a w h s; cases hc; exact wpIn_label ⟨.normal, σ, g, lb, rfl, s, h⟩
  | region id ops draw =>
    intro ac hc Q σ g lb a w h s
    obtain ⟨is, h1, h2⟩ := map_some hc
    have hcomp := comp_of h1
    cases draw with
    | true => subst h2; exact dreg_ok hm hcomp h s
    | false => subst h2; exact reg_ok hcomp h s
  | seq x y ihx ihy =>
    intro ac hc Q σ g lb a w h s
    simp only [ccode] at hc
    split at hc
    · rename_i ax ay h1 h2
      cases hc
      exact wpIn_seq (wpIn_mono (ihx _ h1 _ σ g lb a w h s) (Lift.then fun σ' g' lb' a' w' h' s' => ihy _ h2 _ σ' g' lb' a' w' h' s'))
    · cases hc
  | cond x b c ihb ihc =>
    intro ac hc Q σ g lb a w h s
    simp only [ccode] at hc
    split at hc
    · rename_i ax ab' ac' h1 h2 h3
      cases hc
      unfold awp at h
      split at h
      · rename_i p hp
        have hv := a_rv s.tm h1 hp
        generalize hgx : a.eval x = xv at hv
        cases hv with
        | bool =>
          cases p with
          | true => exact wpIn_cond_true hgx (ihb _ h2 _ σ g lb a w (by rw [if_pos rfl] at h; exact h) s)
          | false => exact wpIn_cond_false hgx (ihc _ h3 _ σ g lb a w (by rw [if_neg (by simp)] at h; exact h) s)
      · exact h.elim
    · cases hc
  | block id c ih =>
    intro ac hc Q σ g lb a w h s
    obtain ⟨ac', h1, h2⟩ := map_some hc
    subst h2
    exact wpIn_block (wpIn_mono (ih _ h1 _ σ g lb a w h s) Lift.blk)
  | loop c ih =>
    intro ac hc Q σ g lb a w h s
    obtain ⟨ac', h1, h2⟩ := map_some hc
    subst h2
    obtain ⟨ι, I, μ, i0, hw, hr⟩ := h
    refine wpIn_loop_ghost (fun n a w => ∃ i g lb, μ i = n ∧ Sim g0 h0 w0 g lb (I i) a w) (μ i0) ⟨i0, g, lb, rfl, hw.sim s⟩ ?_
    rintro n a w ⟨i, g, lb, rfl, s⟩
    refine wpIn_mono (ih _ h1 _ (I i) g lb a w (hr i) s) (Lift.then fun σ' g' lb' a' w' h' s' => ?_)
    obtain ⟨j, hj, hw⟩ := h'
    exact ⟨μ j, hj, j, g', lb', rfl, hw.sim s'⟩
  | rangeFunc f ps asg body iha ihb =>
    intro ac hc Q σ g lb a w h s
    simp only [ccode] at hc
    split at hc
    · cases hc; exact h.elim
    · cases hc
  | exit id => intro ac hc Q σ g lb a w h s; cases hc; exact wpIn_exit ⟨.exit id, σ, g, lb, rfl, s, h⟩
  | ret => intro ac hc Q σ g lb a w h s; cases hc; exact wpIn_ret ⟨.ret, σ, g, lb, rfl, s, h⟩
  | scope c _ => intro ac hc; cases hc
  | goto l => intro ac hc; cases hc
  | refuse y => intro ac hc; cases hc
end Go.Ab
