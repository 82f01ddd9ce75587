/- Part R: rules for running the small code by rewriting. Conditions: none. -/
import Derived.Test.YtnkblnmcabfbmaaAbsQ
import Derived.Attr
set_option linter.unusedVariables false
set_option linter.unusedSimpArgs false
namespace Go.Ab
open Go.RowKit

variable {CC : CallP} {Q : Out → St → Prop} {σ : St}

@[go_sem] theorem awp_skip : awp CC .skip Q σ = Q .normal σ := rfl
@[go_sem] theorem awp_reg (is : List AI) : awp CC (.reg is) Q σ = awr CC is Q σ := rfl
@[go_sem] theorem awp_seq (a b : AC) : awp CC (.seq a b) Q σ = awp CC a (thenQ (awp CC b Q) Q) σ := rfl
@[go_sem] theorem awp_cond (x : AX) (a b : AC) : awp CC (.cond x a b) Q σ = match σ.a x with
    | some (.bool p) => if p = true then awp CC a Q σ else awp CC b Q σ
    | _ => False := rfl
@[go_sem] theorem awp_block (id : Nat) (c : AC) : awp CC (.block id c) Q σ = awp CC c (blk id Q) σ := rfl
@[go_sem] theorem awp_exit (id : Nat) : awp CC (.exit id) Q σ = Q (.exit id) σ := rfl
@[go_sem] theorem awp_ret : awp CC .ret Q σ = Q .ret σ := rfl

@[go_sem] theorem awr_nil : awr CC [] Q σ = Q .normal σ := rfl
@[go_sem] theorem awr_O (d : Nat) (o : AOp) (r : List AI) : awr CC (O d o :: r) Q σ = match evo d o σ with
    | some (x, σ') => awr CC r Q { σ' with t := σ'.t.set d x }
    | none => False := rfl
@[go_sem] theorem awr_Og (d j : Nat) (w : Bool) (o : AOp) (r : List AI) : awr CC (Og d j w o :: r) Q σ = match tg j σ.t.l with
    | .v (.bool b) => if b = w then (match evo d o { σ with t := σ.t.set j (.v (.bool w)) } with
        | some (x, σ') => awr CC r Q { σ' with t := σ'.t.set d x }
        | none => False) else awr CC r Q { σ with t := (σ.t.set j (.v (.bool (!w)))).set d .und }
    | .und => awr CC r Q { σ with t := σ.t.set d .und }
    | _ => False := rfl
@[go_sem] theorem awr_C (d : Nat) (f : AX) (l : List AX) (r : List AI) : awr CC (C d f l :: r) Q σ = match σ.a f, σ.as l with
    | some c, some as' => CC c as' σ.h (kont (awr CC r Q) Q (some d) σ)
    | _, _ => False := rfl
@[go_sem] theorem awr_any (d : Option Nat) (k : AK) (g : Option (Nat × Bool)) (af : List Nat) (r : List AI) : awr CC (⟨d, k, g, af⟩ :: r) Q σ = match g with
    | none => runI CC ⟨d, k, none, af⟩ (awr CC r Q) Q σ
    | some (j, w) => match tg j σ.t.l with
      | .v (.bool b) => if b = w then runI CC ⟨d, k, none, af⟩ (awr CC r Q) Q { σ with t := σ.t.set j (.v (.bool w)) } else awr CC r Q ({ σ with t := σ.t.set j (.v (.bool (!w))) }.put d .und)
      | .und => awr CC r Q (σ.put d .und)
      | _ => False := by cases g <;> rfl
@[go_sem] theorem runI_o (d : Option Nat) (o : AOp) (g : Option (Nat × Bool)) (af : List Nat) (k : St → Prop) : runI CC ⟨d, .o o, g, af⟩ k Q σ = match evo (d.getD 0) o σ with
    | some (x, σ') => k (σ'.put d x)
    | none => False := rfl
@[go_sem] theorem runI_fo (d : Option Nat) (o : AOp) (g : Option (Nat × Bool)) (af : List Nat) (k : St → Prop) : runI CC ⟨d, .fo o, g, af⟩ k Q σ = match evo (d.getD 0) o σ with
    | some (.v a, σ') => match frz1 0 a σ'.h with
      | (a', h') => k ({ σ' with h := h' }.put d (.v a'))
    | _ => False := rfl
@[go_sem] theorem runI_c (d : Option Nat) (f : AX) (l : List AX) (g : Option (Nat × Bool)) (af : List Nat) (k : St → Prop) : runI CC ⟨d, .call f l, g, af⟩ k Q σ = match σ.a f, σ.as l with
    | some c, some as' => CC c as' σ.h (kont k Q d σ)
    | _, _ => False := rfl
@[go_sem] theorem runI_p (d : Option Nat) (x : AX) (g : Option (Nat × Bool)) (af : List Nat) (k : St → Prop) : runI CC ⟨d, .pan x, g, af⟩ k Q σ = match σ.a x with
    | some (.iface t v) => Q (.pan (.iface t v)) σ
    | _ => False := rfl
@[go_sem] theorem x_t (i : Nat) : σ.x (.t i) = tg i σ.t.l := rfl
@[go_sem] theorem x_c (a : AV) : σ.x (.c a) = .v a := rfl
@[go_sem] theorem x_N (n : Int) : σ.x (N n) = .v (.int .i64 n) := rfl
@[go_sem] theorem x_B (b : Bool) : σ.x (B b) = .v (.bool b) := rfl
@[go_sem] theorem rd_one (a : AV) (r : List AV) : rd 1 false (a :: r) = some (.v a) := by simp [rd]
theorem rd_all {n : Nat} {cs : List AV} (h : cs.length = n) : rd n true cs = some (.v (.agg cs)) := by simp [rd, ← h]
@[go_sem] theorem rd_lit (n : Nat) (a : AV) (r : List AV) : rd n true (a :: r) = if n ≤ (a :: r).length then some (.v (.agg ((a :: r).take n))) else none := rfl
attribute [go_sem] evo thenQ blk St.a TV.av St.put List.map List.replicate_succ List.replicate_zero List.cons_append List.nil_append List.length_cons List.length_nil tg ini binI List.set_cons_zero List.set_cons_succ Option.getD_some Option.getD_none decide_eq_true_eq decide_eq_false_iff_not Bool.not_eq_eq_eq_not Bool.not_true Bool.not_false Bool.not_not St.as rvals rval fin clean oneR frzL frzC frz1 frz0 LtR look put noz over AV.cellsN AV.cells AV.one fills fillE elems
  Nat.reduceAdd Nat.reduceSub Nat.reduceLeDiff Nat.reduceLT Nat.reduceEqDiff Nat.reduceBEq Int.reduceEq Int.reduceLT Int.reduceLE Int.reduceAdd Int.reduceSub Bool.true_eq_false Bool.false_eq_true forall_const false_implies true_implies and_true true_and and_false false_and List.drop_zero List.drop_succ_cons List.take_succ_cons List.take_zero List.all_cons List.all_nil
  decide_true decide_false Bool.and_true Bool.true_and Bool.and_self Bool.and_false Bool.false_and List.not_mem_nil List.nodup_nil not_false_eq_true

theorem fin2_ret {H : List AO} {Post : Res → List AO → Prop} {rs : List RS} {σ : St} : fin2 H Post rs .ret σ = (match rvals σ rs with
    | some l => fin1 H Post (.ret (oneR (frzL H.length l σ.h).1)) (frzL H.length l σ.h).2
    | none => False) := by
  apply propext
  show (∃ l, rvals σ rs = some l ∧ _) ↔ _
  cases rvals σ rs with
  | none => exact ⟨fun ⟨l, h, _⟩ => (by cases h), fun h => h.elim⟩
  | some l => exact ⟨fun ⟨l', h, k⟩ => (by cases h; exact k), fun h => ⟨l, rfl, h⟩⟩
@[go_sem] theorem fin2_ret' {H : List AO} {Post : Res → List AO → Prop} {rs : List RS} {σ : St} : fin2 H Post rs .ret σ = (match rvals σ rs with
    | some l => fin1 H Post (.ret (oneR (frzL H.length l σ.h).1)) (frzL H.length l σ.h).2
    | none => False) := fin2_ret
@[go_sem] theorem fin2_normal {H : List AO} {Post : Res → List AO → Prop} {rs : List RS} {σ : St} : fin2 H Post rs .normal σ = (match rvals σ rs with
    | some l => fin1 H Post (.ret (oneR (frzL H.length l σ.h).1)) (frzL H.length l σ.h).2
    | none => False) := fin2_ret
@[go_sem] theorem fin2_pan {H : List AO} {Post : Res → List AO → Prop} {rs : List RS} {σ : St} {v : AV} : fin2 H Post rs (.pan v) σ = fin1 H Post (.pan v) σ.h := rfl
theorem fin1_app {H X : List AO} {Post : Res → List AO → Prop} {r : Res} : fin1 H Post r (H ++ X) = (LtR H.length r ∧ Post r H) := by
  unfold fin1
  rw [List.take_left']
  · apply propext
    refine ⟨fun h => ⟨h.1, h.2.2⟩, fun h => ⟨h.1, fun id o ho hi => .inl ?_, h.2⟩⟩
    rw [List.getElem?_append_left hi] at ho
    exact ho
  · rfl
@[go_sem] theorem fin1_app' {H X : List AO} {Post : Res → List AO → Prop} {r : Res} : fin1 H Post r (H ++ X) = (LtR H.length r ∧ Post r H) := fin1_app
@[go_sem] theorem fin1_self {H : List AO} {Post : Res → List AO → Prop} {r : Res} : fin1 H Post r H = (LtR H.length r ∧ Post r H) := by
  have := fin1_app (H := H) (X := []) (Post := Post) (r := r)
  rwa [List.append_nil] at this
theorem fin1_set {H X : List AO} {Post : Res → List AO → Prop} {r : Res} {id : Nat} {x : AO} (hx : LtO H.length x) : fin1 H Post r (H.set id x ++ X) = (LtR H.length r ∧ Post r (H.set id x)) := by
  unfold fin1
  rw [List.take_left' (by simp)]
  apply propext
  refine ⟨fun h => ⟨h.1, h.2.2⟩, fun h => ⟨h.1, fun i o ho hi => ?_, h.2⟩⟩
  rw [List.getElem?_append_left (by simpa using hi), List.getElem?_set] at ho
  split at ho
  · split at ho
    · cases ho; exact .inr hx
    · cases ho
  · exact .inl ho
theorem fin1_set' {H : List AO} {Post : Res → List AO → Prop} {r : Res} {id : Nat} {x : AO} (hx : LtO H.length x) : fin1 H Post r (H.set id x) = (LtR H.length r ∧ Post r (H.set id x)) := by
  have := fin1_set (X := []) (Post := Post) (r := r) (id := id) hx
  rwa [List.append_nil] at this
theorem ltO_box {n : Nat} {cs : List AV} : LtO n (.box cs) = ∀ a ∈ cs, Lt n a := rfl
@[go_sem] theorem lt_int {n : Nat} {k : IntKind} {m : Int} : Lt n (.int k m) = True := eq_true (.int k m)
@[go_sem] theorem lt_bool {n : Nat} {b : Bool} : Lt n (.bool b) = True := eq_true (.bool b)
@[go_sem] theorem lt_tup {n : Nat} {l : List AV} : Lt n (.tup l) = ∀ a ∈ l, Lt n a := propext ⟨fun h => by cases h; assumption, .tup⟩
@[go_sem] theorem lt_agg {n : Nat} {l : List AV} : Lt n (.agg l) = ∀ a ∈ l, Lt n a := propext ⟨fun h => by cases h; assumption, .agg⟩
@[go_sem] theorem lt_sl {n : Nat} {es : List (List AV)} : Lt n (.sl es) = ∀ a ∈ es.flatten, Lt n a := propext ⟨fun h => by cases h; assumption, .sl⟩
@[go_sem] theorem ball_cons {α : Type} {p : α → Prop} {a : α} {l : List α} : (∀ x ∈ a :: l, p x) = (p a ∧ ∀ x ∈ l, p x) := by simp
@[go_sem] theorem ball_nil {α : Type} {p : α → Prop} : (∀ x ∈ ([] : List α), p x) = True := by simp

@[go_sem] theorem set_mk (n i : Nat) (l : List (Nat × TV)) (x : TV) : Ts.set ⟨n, l⟩ i x = if i < n then ⟨n, (i, x) :: l⟩ else ⟨n, l⟩ := rfl
/-- A list of temporaries told of another one. -/
def WkT (l : List (Nat × TV)) : List (Nat × TV) → Prop
  | [] => True
  | (i, x) :: r => tg i l = x ∧ WkT l r
def LiveT (ls : List (Nat × List AV)) : List (Nat × TV) → Prop
  | [] => True
  | (_, .lp d _) :: t => look d ls ≠ none ∧ LiveT ls t
  | _ :: t => LiveT ls t
theorem WkT.spec {l : List (Nat × TV)} : ∀ {r : List (Nat × TV)}, WkT l r → ∀ i, tg i r = .junk ∨ tg i r = tg i l
  | [], _, i => .inl rfl
  | (k, x) :: r, h, i => by
    rw [tg_cons]
    by_cases e : k = i
    · subst e; rw [if_pos rfl]; exact .inr h.1.symm
    · rw [if_neg e]; exact WkT.spec h.2 i
theorem LiveT.spec {ls : List (Nat × List AV)} : ∀ {t : List (Nat × TV)}, LiveT ls t → ∀ (i d off : Nat), tg i t = .lp d off → look d ls ≠ none
  | [], _, i, d, off, hi => by cases hi
  | (k, x) :: t, h, i, d, off, hi => by
    have h2 : LiveT ls t := by cases x <;> first | exact h | exact h.2
    rw [tg_cons] at hi
    by_cases e : k = i
    · rw [if_pos e] at hi; subst hi; exact h.1
    · rw [if_neg e] at hi; exact LiveT.spec h2 i d off hi
theorem look_mem {d : Nat} {cs : List AV} : ∀ {ls : List (Nat × List AV)}, look d ls = some cs → (d, cs) ∈ ls
  | (k, c) :: r, h => by
    unfold look at h
    split at h
    · rename_i e; subst e; cases h; simp
    · simp [look_mem h]
theorem Wk.mk' {σ τ : St} (h0 : τ.t.n = σ.t.n) (h1 : WkT σ.t.l τ.t.l) (h2 : ∀ p ∈ τ.ls, look p.1 σ.ls = some p.2) (h3 : LiveT τ.ls τ.t.l) (h4 : τ.h = σ.h) (h5 : τ.ds = σ.ds) : Wk σ τ :=
  ⟨⟨h0, h1.spec⟩, fun d cs h => h2 (d, cs) (look_mem h), h3.spec, h4, h5⟩
attribute [go_sem] WkT LiveT List.foldl_cons List.foldl_nil true_or or_true

theorem awp_loop {c : AC} {ι : Type} (p : ι → Prop) (I : ι → St) (μ : ι → Nat) (i0 : ι) (h0 : p i0) (hw : Wk σ (I i0)) (h : ∀ i, p i → awp CC c (thenQ (fun σ1 => ∃ j, p j ∧ μ j < μ i ∧ Wk σ1 (I j)) Q) (I i)) : awp CC (.loop c) Q σ := by
  refine ⟨{ i // p i }, fun i => I i.1, fun i => μ i.1, ⟨i0, h0⟩, hw, fun i => ?_⟩
  have := h i.1 i.2
  have e : (fun σ1 => ∃ j, p j ∧ μ j < μ i.1 ∧ Wk σ1 (I j)) = (fun σ1 => ∃ j : { i // p i }, μ j.1 < μ i.1 ∧ Wk σ1 (I j.1)) := by
    funext σ1
    exact propext ⟨fun ⟨j, h1, h2⟩ => ⟨⟨j, h1⟩, h2⟩, fun ⟨j, h2⟩ => ⟨j.1, j.2, h2⟩⟩
  rw [e] at this
  exact this

theorem wrap64 {n : Int} (h1 : -9223372036854775808 ≤ n) (h2 : n < 9223372036854775808) : IntKind.wrap .i64 n = n := by
  simp only [IntKind.wrap, IntKind.bits, IntKind.signed]
  first | omega | (split <;> omega) | (simp; omega)
/-- A call of a function whose contract tells what it returns, and what it leaves. -/
theorem call_to {P : Program} {k : FuncId} {first args cap : List AV} {H H1 : List AO} {v : AV} {Post : Res → List AO → Prop} (h : CallsA P k (first ++ args ++ cap) H (fun r H' => r = .ret v ∧ H' = H1)) (hk : Post (.ret v) H1) :
    Go.Ab.CC P (.fn (.func k) first cap) args H Post :=
  CC.mono (fun r H' h => by obtain ⟨rfl, rfl⟩ := h; exact hk) h
theorem call_of {P : Program} {k : FuncId} {first args cap : List AV} {H : List AO} {Post0 Post : Res → List AO → Prop} (h : CallsA P k (first ++ args ++ cap) H Post0) (hk : ∀ r H', Post0 r H' → Post r H') :
    Go.Ab.CC P (.fn (.func k) first cap) args H Post :=
  CC.mono hk h
attribute [go_sem] kont
end Go.Ab
