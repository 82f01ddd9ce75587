/- Part W: a region whose order is open, by the order of its text. Conditions: none. -/
import Derived.Test.YtnkblnmcabfbmaaAbsV
import Derived.Test.YtnkblnmcabfbmaaAbsR
set_option linter.unusedVariables false
set_option linter.unusedSimpArgs false
namespace Go.Ab

theorem awAny_eqv {CC : CallP} {is : List AI} {Q : St → Prop} : ∀ {n : Nat} {l : Array Bool} {σ τ : St}, Eqv σ τ → awAny CC is Q n l σ → awAny CC is Q n l τ
  | 0, l, σ, τ, e, h => by obtain ⟨h1, ρ, h2, h3⟩ := h; exact ⟨h1, ρ, e.symm.trans h2, h3⟩
  | n + 1, l, σ, τ, e, h => by
    refine ⟨fun hr => ?_, fun i hi o ho => ?_⟩
    · obtain ⟨ρ, h2, h3⟩ := h.1 hr; exact ⟨ρ, e.symm.trans h2, h3⟩
    · obtain ⟨σ', h1, h2⟩ := h.2 i hi o ho
      obtain ⟨τ', h3, h4⟩ := stepG_eqv h1 e
      exact ⟨τ', h3, awAny_eqv h4 h2⟩

theorem mem_rdy {is : List AI} {j : Nat} {l : Array Bool} : j ∈ rdy is l ↔ l.getD j true = false ∧ ∃ o, is[j]? = some o ∧ ∀ m ∈ o.af, l.getD m false = true := by
  unfold rdy
  rw [List.mem_filter, List.mem_range]
  cases ho : is[j]? with
  | none => simp
  | some o =>
    have hlt : j < is.length := (List.getElem?_eq_some_iff.1 ho).1
    simp [hlt]
theorem rdy_mono {is : List AI} {i j : Nat} {l : Array Bool} (hj : j ∈ rdy is l) (hne : j ≠ i) : j ∈ rdy is (l.setIfInBounds i true) := by
  rw [mem_rdy] at *
  obtain ⟨h0, o, ho, hall⟩ := hj
  exact ⟨by rw [getD_set_ne true (Ne.symm hne)]; exact h0, o, ho, fun m hm => getD_set_true (hall m hm)⟩

theorem awAny_first {CC : CallP} {is : List AI} {Q : St → Prop} {i : Nat} {oi : AI} (hi : is[i]? = some oi) {late : Nat → Bool} (hlate : ∀ j, late j = true → ∃ oj, is[j]? = some oj ∧ ∃ m ∈ oj.af, m = i ∨ late m = true) :
    ∀ (n : Nat) (l : Array Bool) (σ σ1 : St), LiveS σ → i ∈ rdy is l → stepG CC oi σ σ1 → (∀ (j : Nat) (oj : AI), is[j]? = some oj → j ≠ i → l.getD j true = false → late j = false → indep oi oj = true ∧ compat oi oj = true) →
      (∀ j, late j = true → l.getD j false = false) → awAny CC is Q n (l.setIfInBounds i true) σ1 → awAny CC is Q (n + 1) l σ
  | 0, l, σ, σ1, hl, hr, hs, hf, hu, H => by
    refine ⟨fun h => (by rw [h] at hr; cases hr), fun j hj o ho => ?_⟩
    by_cases hji : j = i
    · subst hji; rw [hi] at ho; cases ho; exact ⟨σ1, hs, H⟩
    · have := rdy_mono hj hji
      rw [H.1] at this
      cases this
  | n + 1, l, σ, σ1, hl, hr, hs, hf, hu, H => by
    refine ⟨fun h => (by rw [h] at hr; cases hr), fun j hj o ho => ?_⟩
    by_cases hji : j = i
    · subst hji; rw [hi] at ho; cases ho; exact ⟨σ1, hs, H⟩
    · obtain ⟨σ2, h1, h2⟩ := H.2 j (rdy_mono hj hji) o ho
      obtain ⟨hjun, o', ho', hall⟩ := mem_rdy.1 hj
      rw [ho] at ho'
      cases ho'
      have hiun : l.getD i false = false := by
        have h0 := (mem_rdy.1 hr).1
        rcases Nat.lt_or_ge i l.size with h' | h'
        · simp [h'] at h0 ⊢; exact h0
        · simp [Array.getElem?_eq_none h'] at h0
      have hnl : late j = false := by
        cases hq : late j with
        | false => rfl
        | true =>
          obtain ⟨oj, ho', m, hm, hk⟩ := hlate j hq
          rw [ho] at ho'
          cases ho'
          have := hall m hm
          rcases hk with rfl | hk
          · rw [hiun] at this; cases this
          · rw [hu m hk] at this; cases this
      obtain ⟨hin, hco⟩ := hf j o ho hji hjun hnl
      obtain ⟨ri, ai, rfl⟩ := stepG_iff.1 hs
      obtain ⟨rj, aj, rfl⟩ := stepG_iff.1 h1
      obtain ⟨rj', ri', b1, b2, b3⟩ := diamond hl hin hco ai aj
      refine ⟨_, stepG_iff.2 ⟨rj', b1, rfl⟩, ?_⟩
      refine awAny_first hi hlate n _ _ _ (live_app hl b1) (rdy_mono hr (Ne.symm hji)) (stepG_iff.2 ⟨ri', b2, rfl⟩) (fun k ok hk hki hun hkl => ?_) (fun k hk => ?_) ?_
      · refine hf k ok hk hki ?_ hkl
        by_cases hjk : j = k
        · subst hjk; exact hjun
        · rw [getD_set_ne true hjk] at hun; exact hun
      · have : j ≠ k := by rintro rfl; rw [hk] at hnl; cases hnl
        rw [getD_set_ne false this]; exact hu k hk
      · rw [Array.setIfInBounds_comm _ _ hji]
        exact awAny_eqv b3 h2

/-- A region, one outcome an operation. -/
def awl (CC : CallP) : List AI → (St → Prop) → St → Prop
  | [], Q, σ => Q σ
  | i :: r, Q, σ => ∃ σ', stepG CC i σ σ' ∧ awl CC r Q σ'

/-- Those that wait for k, by others too. -/
def lateOf (is : List AI) (k : Nat) : List Nat :=
  (List.range is.length).foldl (fun acc j => match is[j]? with
    | some o => if o.af.any (fun m => m == k || acc.contains m) then j :: acc else acc
    | none => acc) []
def firstB (is : List AI) (k : Nat) : Bool :=
  match is[k]? with
  | none => false
  | some o => o.af.all (fun m => decide (m < k)) &&
    (lateOf is k).all (fun j => decide (k < j) && match is[j]? with
      | some oj => oj.af.any fun m => m == k || (lateOf is k).contains m
      | none => false) &&
    (List.range is.length).all fun j => decide (j ≤ k) || (lateOf is k).contains j || (match is[j]? with
      | some oj => indep o oj && compat o oj
      | none => true)
def lexB (is : List AI) : Bool := (List.range is.length).all (firstB is)

/-- The first k are done. -/
def doneTo (n k : Nat) : Array Bool := ((List.range n).map fun i => decide (i < k)).toArray
theorem doneTo_getD (n k i : Nat) (d : Bool) : (doneTo n k).getD i d = if i < n then decide (i < k) else d := by
  unfold doneTo
  rw [Array.getD_eq_getD_getElem?]
  by_cases h : i < n
  · simp [h, List.getElem?_range]
  · simp [h]
theorem doneTo_set (n k : Nat) : (doneTo n k).setIfInBounds k true = doneTo n (k + 1) := by
  apply Array.ext
  · simp [doneTo]
  · intro i h1 h2
    simp [doneTo] at h1 h2
    rw [Array.getElem_setIfInBounds (by simpa [doneTo] using h1)]
    split
    · rename_i e; subst e; simp [doneTo]
    · rename_i e
      simp [doneTo]
      omega

theorem lex_ok {CC : CallP} {is : List AI} (hB : lexB is = true) {Q : St → Prop} : ∀ (r : List AI) (k : Nat) (σ : St), is.drop k = r → k + r.length = is.length → LiveS σ → awl CC r Q σ → awAny CC is Q r.length (doneTo is.length k) σ
  | [], k, σ, hd, hk, hl, h => by
    refine ⟨?_, σ, .refl σ, h⟩
    apply List.eq_nil_iff_forall_not_mem.2
    intro j hj
    obtain ⟨h1, o, ho, _⟩ := mem_rdy.1 hj
    have hlt := (List.getElem?_eq_some_iff.1 ho).1
    rw [doneTo_getD, if_pos hlt] at h1
    simp at h1 hk
    omega
  | o :: r, k, σ, hd, hk, hl, ⟨σ1, h1, h2⟩ => by
    have hi : is[k]? = some o := by have := congrArg (·[0]?) hd; simpa using this
    have hkl : k < is.length := (List.getElem?_eq_some_iff.1 hi).1
    have hb := List.all_eq_true.1 hB k (List.mem_range.2 hkl)
    unfold firstB at hb
    rw [hi] at hb
    simp only [Bool.and_eq_true, List.all_eq_true, decide_eq_true_eq] at hb
    obtain ⟨⟨b1, b2⟩, b3⟩ := hb
    refine awAny_first hi (late := fun j => (lateOf is k).contains j) (fun j hj => ?_) r.length _ σ σ1 hl ?_ h1 (fun j oj hoj hne hun hlt => ?_) (fun j hj => ?_) ?_
    · have hm : j ∈ lateOf is k := by simpa using hj
      obtain ⟨_, b⟩ := b2 j hm
      cases hoj : is[j]? with
      | none => rw [hoj] at b; cases b
      | some oj =>
        rw [hoj] at b
        obtain ⟨m, hm, hq⟩ := List.any_eq_true.1 b
        refine ⟨oj, rfl, m, hm, ?_⟩
        simpa using hq
    · refine mem_rdy.2 ⟨by rw [doneTo_getD, if_pos hkl]; simp, o, hi, fun m hm => ?_⟩
      have := b1 m hm
      rw [doneTo_getD, if_pos (by omega)]
      simpa using this
    · have hjl := (List.getElem?_eq_some_iff.1 hoj).1
      rw [doneTo_getD, if_pos hjl] at hun
      have hjk : ¬ j ≤ k := by simp at hun; omega
      have b := b3 j (List.mem_range.2 hjl)
      rw [hoj] at b
      have hlt' : (lateOf is k).contains j = false := hlt
      rw [hlt'] at b
      simp [hjk] at b
      exact b
    · have hm : j ∈ lateOf is k := by simpa using hj
      obtain ⟨b, _⟩ := b2 j hm
      rw [doneTo_getD]
      split
      · simp; omega
      · rfl
    · rw [doneTo_set]
      refine lex_ok hB r (k + 1) σ1 ?_ (by simp at hk; omega) ?_ h2
      · have : is.drop (k + 1) = (is.drop k).drop 1 := by rw [List.drop_drop]
        rw [this, hd]; rfl
      · obtain ⟨ri, ai, rfl⟩ := stepG_iff.1 h1
        exact live_app hl ai
  termination_by r => r.length

/-- A region whose order is open: the order of its text will do. -/
theorem awp_dreg {CC : CallP} {is : List AI} (hB : lexB is = true) {Q : Out → St → Prop} {σ : St} (h : awl CC is (Q .normal) σ) : awp CC (.dreg is) Q σ := fun hl => by
  have := lex_ok hB is 0 σ rfl (by simp) hl h
  have e : doneTo is.length 0 = Array.replicate is.length false := by
    apply Array.ext
    · simp [doneTo]
    · intro i h1 h2; simp [doneTo]
  rwa [e] at this

/-! ### Running -/
theorem awl_nil {CC : CallP} {Q : St → Prop} {σ : St} (h : Q σ) : awl CC [] Q σ := h
/-- One operation, as a rewriting would run it. -/
def awn (CC : CallP) : List AI → (St → Prop) → St → Prop
  | [], Q, σ => Q σ
  | ⟨d, .o op, none, _⟩ :: r, Q, σ => match evo (d.getD 0) op σ with
    | some (x, σ') => awn CC r Q (σ'.put d x)
    | none => False
  | ⟨d, .o op, some (j, w), _⟩ :: r, Q, σ => match tg j σ.t.l with
    | .v (.bool b) => if b = w then (match evo (d.getD 0) op σ with
      | some (x, σ') => awn CC r Q (σ'.put d x)
      | none => False) else awn CC r Q (σ.put d .und)
    | .und => awn CC r Q (σ.put d .und)
    | _ => False
  | ⟨d, .call f l, none, _⟩ :: r, Q, σ => match σ.a f, σ.as l with
    | some c, some vs => ∃ v, CC c vs σ.h (fun q h' => q = .ret v ∧ h' = σ.h) ∧ awn CC r Q (σ.put d (.v v))
    | _, _ => False
  | ⟨d, .callW f l, none, _⟩ :: r, Q, σ => match σ.a f, σ.as l with
    | some c, some vs => ∃ v h, CC c vs σ.h (fun q h' => q = .ret v ∧ h' = h) ∧ awn CC r Q ({ σ with h := h }.put d (.v v))
    | _, _ => False
  | ⟨d, .call f l, some (j, w), _⟩ :: r, Q, σ => match tg j σ.t.l with
    | .v (.bool b) => if b = w then (match σ.a f, σ.as l with
      | some c, some vs => ∃ v, CC c vs σ.h (fun q h' => q = .ret v ∧ h' = σ.h) ∧ awn CC r Q (σ.put d (.v v))
      | _, _ => False) else awn CC r Q (σ.put d .und)
    | .und => awn CC r Q (σ.put d .und)
    | _ => False
  | _ :: _, _, _ => False
theorem awn_awl {CC : CallP} : ∀ {l : List AI} {Q : St → Prop} {σ : St}, awn CC l Q σ → awl CC l Q σ
  | [], Q, σ, h => h
  | ⟨d, k, g, af⟩ :: r, Q, σ, h => by
    cases k with
    | o op =>
      cases g with
      | none =>
        unfold awn at h
        split at h
        · rename_i x σ' he
          exact ⟨_, ⟨x, σ', he, rfl⟩, awn_awl h⟩
        · exact h.elim
      | some jw =>
        obtain ⟨j, w⟩ := jw
        unfold awn at h
        split at h
        · rename_i b hb
          split at h
          · rename_i e
            split at h
            · rename_i x σ' he
              exact ⟨_, .inl ⟨e ▸ hb, x, σ', he, rfl⟩, awn_awl h⟩
            · exact h.elim
          · rename_i e
            have eb : b = !w := by cases b <;> cases w <;> simp_all
            exact ⟨_, .inr ⟨.inl (eb ▸ hb), rfl⟩, awn_awl h⟩
        · rename_i hb
          exact ⟨_, .inr ⟨.inr hb, rfl⟩, awn_awl h⟩
        · exact h.elim
    | call f l =>
      cases g with
      | none =>
        unfold awn at h
        split at h
        · rename_i c vs h1 h2
          obtain ⟨v, h3, h4⟩ := h
          exact ⟨_, ⟨c, vs, v, h1, h2, h3, rfl⟩, awn_awl h4⟩
        · exact h.elim
      | some jw =>
        obtain ⟨j, w⟩ := jw
        unfold awn at h
        split at h
        · rename_i b hb
          split at h
          · rename_i e
            split at h
            · rename_i c vs h1 h2
              obtain ⟨v, h3, h4⟩ := h
              exact ⟨_, .inl ⟨e ▸ hb, c, vs, v, h1, h2, h3, rfl⟩, awn_awl h4⟩
            · exact h.elim
          · rename_i e
            have eb : b = !w := by cases b <;> cases w <;> simp_all
            exact ⟨_, .inr ⟨.inl (eb ▸ hb), rfl⟩, awn_awl h⟩
        · rename_i hb
          exact ⟨_, .inr ⟨.inr hb, rfl⟩, awn_awl h⟩
        · exact h.elim
    | callW f l =>
      cases g with
      | none =>
        unfold awn at h
        split at h
        · rename_i c vs h1 h2
          obtain ⟨v, hw, h3, h4⟩ := h
          exact ⟨_, ⟨c, vs, v, hw, h1, h2, h3, rfl⟩, awn_awl h4⟩
        · exact h.elim
      | some jw => unfold awn at h; exact h.elim
    | fo op => cases g <;> (unfold awn at h; exact h.elim)
    | pan op => cases g <;> (unfold awn at h; exact h.elim)
theorem awp_draw {CC : CallP} {is : List AI} (hB : lexB is = true) {Q : Out → St → Prop} {σ : St} (h : awn CC is (Q .normal) σ) : awp CC (.dreg is) Q σ := awp_dreg hB (awn_awl h)
section
variable {CC : CallP} {Q : St → Prop} {σ : St} (r : List AI) (d : Nat) (op : AOp) (f : AX) (l : List AX) (j : Nat) (w : Bool) (af : List Nat) (od : Option Nat)
@[go_sem] theorem awn_nil : awn CC [] Q σ = Q σ := rfl
@[go_sem] theorem awn_O : awn CC (O d op :: r) Q σ = match evo d op σ with
    | some (x, σ') => awn CC r Q { σ' with t := σ'.t.set d x }
    | none => False := rfl
@[go_sem] theorem awn_Og : awn CC (Og d j w op :: r) Q σ = match tg j σ.t.l with
    | .v (.bool b) => if b = w then (match evo d op σ with
      | some (x, σ') => awn CC r Q { σ' with t := σ'.t.set d x }
      | none => False) else awn CC r Q { σ with t := σ.t.set d .und }
    | .und => awn CC r Q { σ with t := σ.t.set d .und }
    | _ => False := rfl
@[go_sem] theorem awn_C : awn CC (C d f l :: r) Q σ = match σ.a f, σ.as l with
    | some c, some vs => ∃ v, CC c vs σ.h (fun q h' => q = .ret v ∧ h' = σ.h) ∧ awn CC r Q { σ with t := σ.t.set d (.v v) }
    | _, _ => False := rfl
@[go_sem] theorem awn_o : awn CC (⟨od, .o op, none, af⟩ :: r) Q σ = match evo (od.getD 0) op σ with
    | some (x, σ') => awn CC r Q (σ'.put od x)
    | none => False := rfl
@[go_sem] theorem awn_og : awn CC (⟨od, .o op, some (j, w), af⟩ :: r) Q σ = match tg j σ.t.l with
    | .v (.bool b) => if b = w then (match evo (od.getD 0) op σ with
      | some (x, σ') => awn CC r Q (σ'.put od x)
      | none => False) else awn CC r Q (σ.put od .und)
    | .und => awn CC r Q (σ.put od .und)
    | _ => False := rfl
@[go_sem] theorem awn_c : awn CC (⟨od, .call f l, none, af⟩ :: r) Q σ = match σ.a f, σ.as l with
    | some c, some vs => ∃ v, CC c vs σ.h (fun q h' => q = .ret v ∧ h' = σ.h) ∧ awn CC r Q (σ.put od (.v v))
    | _, _ => False := rfl
@[go_sem] theorem awn_cg : awn CC (⟨od, .call f l, some (j, w), af⟩ :: r) Q σ = match tg j σ.t.l with
    | .v (.bool b) => if b = w then (match σ.a f, σ.as l with
      | some c, some vs => ∃ v, CC c vs σ.h (fun q h' => q = .ret v ∧ h' = σ.h) ∧ awn CC r Q (σ.put od (.v v))
      | _, _ => False) else awn CC r Q (σ.put od .und)
    | .und => awn CC r Q (σ.put od .und)
    | _ => False := rfl
@[go_sem] theorem awn_w : awn CC (⟨od, .callW f l, none, af⟩ :: r) Q σ = match σ.a f, σ.as l with
    | some c, some vs => ∃ v h, CC c vs σ.h (fun q h' => q = .ret v ∧ h' = h) ∧ awn CC r Q ({ σ with h := h }.put od (.v v))
    | _, _ => False := rfl
end
end Go.Ab
