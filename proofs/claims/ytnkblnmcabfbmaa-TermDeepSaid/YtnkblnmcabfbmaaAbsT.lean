/- Part T: kinds of operations, by what they need and what they do. Conditions: none. -/
import Derived.Test.YtnkblnmcabfbmaaAbsS
set_option linter.unusedVariables false
set_option linter.unusedSimpArgs false
namespace Go.Ab

/-- 0: looks at temporaries only; 1: reads; 2: a new local variable; 3: all else. -/
def AOp.cls : AOp → Nat
  | .mv _ | .pick _ _ _ | .bld _ _ | .bsl _ _ _ _ | .nilc _ | .bin _ _ _ | .eqb _ _ _ | .not _ | .cv _ _ | .fa _ _ | .fld _ _ _ _ | .ext _ _ | .mx _ _ | .mkf _ _ _ | .ifc _ _ | .mkz _ _ _ => 0
  | .ld _ _ _ | .ia _ _ _ | .lk _ _ _ _ | .len _ => 1
  | .alc _ | .bx _ => 2
  | .ldl _ _ _ => 5
  | _ => 3

theorem cls0 {op : AOp} (hc : op.cls = 0) {d : Nat} {X : AX → TV} {L : Nat → Option (List AV)} {h : List AO} : evo2 d op X L h = (evo2 0 op X (fun _ => none) []).map fun r => (r.1, none, h) := by
  cases op <;> simp only [AOp.cls] at hc <;> first
    | cases hc
    | skip
  case mv x => rfl
  case pick a b c => simp only [evo2]; cases (X a).av with
    | none => rfl
    | some v => cases v <;> first | rfl | (rename_i p; cases p <;> rfl)
  case bld z ps => simp only [evo2]; cases fills2 X (noz z) ps <;> rfl
  case bsl a b z ps => simp only [evo2]; cases fillE2 X a (List.replicate b (noz z)) ps with
    | none => rfl
    | some es => dsimp only; split <;> rfl
  case nilc x => simp only [evo2]; cases X x with
    | v y => cases y <;> first | rfl | (rename_i f a c; cases f <;> rfl)
    | _ => rfl
  case bin o x y => simp only [evo2]; cases (X x).av with
    | none => rfl
    | some a => cases (X y).av with
      | none => cases a <;> rfl
      | some b =>
        cases a <;> first | rfl | skip
        cases b <;> first | rfl | skip
        rename_i k a k' b
        dsimp only
        split
        · cases binI o k a b <;> rfl
        · rfl
  case eqb n x y => simp only [evo2]; cases (X x).av with
    | none => rfl
    | some a => cases (X y).av with
      | none => cases a <;> rfl
      | some b => cases a <;> first | rfl | (cases b <;> rfl)
  case not x => simp only [evo2]; cases (X x).av with
    | none => rfl
    | some a => cases a <;> rfl
  case cv k x => simp only [evo2]; cases (X x).av with
    | none => rfl
    | some a => cases a <;> rfl
  case fa o x => simp only [evo2]; cases X x with
    | v y => cases y <;> rfl
    | _ => rfl
  case fld o n ag x => simp only [evo2]; cases (X x).av with
    | none => rfl
    | some a => cases a <;> first | rfl | (rename_i cs; dsimp only; cases rd n ag (cs.drop o) <;> rfl)
  case ext x i => simp only [evo2]; cases (X x).av with
    | none => rfl
    | some a => cases a <;> first | rfl | (rename_i vs; dsimp only; cases vs[i]? <;> rfl)
  case mx x y => simp only [evo2]; cases (X x).av with
    | none => rfl
    | some a => cases (X y).av with
      | none => cases a <;> rfl
      | some b =>
        cases a <;> first | rfl | skip
        cases b <;> first | rfl | skip
        rename_i k a k' b
        dsimp only
        by_cases e : k = k'
        · rw [if_pos e, if_pos e]; rfl
        · rw [if_neg e, if_neg e]; rfl
  case mkf f a b => simp only [evo2]; cases as2 X a with
    | none => rfl
    | some u => cases as2 X b <;> rfl
  case ifc t x => simp only [evo2]; cases (X x).av <;> rfl
  case mkz sz z x => simp only [evo2]; cases (X x).av with
    | none => rfl
    | some a => cases a <;> first | rfl | (dsimp only; split <;> rfl)

theorem cls1 {op : AOp} (hc : op.cls = 1) {d : Nat} {X : AX → TV} {L : Nat → Option (List AV)} {h : List AO} {r : TV × Option (Bool × Nat × List AV) × List AO} (he : evo2 d op X L h = some r) : r = (r.1, none, h) := by
  cases op <;> simp only [AOp.cls] at hc <;> first
    | cases hc
    | skip
  all_goals
    simp only [evo2] at he
    repeat' split at he
    all_goals first
      | (cases he; rfl)
      | cases he

theorem cls2 {op : AOp} (hc : op.cls = 2) {d : Nat} {X : AX → TV} {L : Nat → Option (List AV)} {h : List AO} {r : TV × Option (Bool × Nat × List AV) × List AO} (he : evo2 d op X L h = some r) :
    L d = none ∧ r.1 = .lp d 0 ∧ (∃ c, r.2.1 = some (true, d, c)) ∧ r.2.2 = h ∧ ∀ (L' : Nat → Option (List AV)) (h' : List AO), L' d = none → evo2 d op X L' h' = some (r.1, r.2.1, h') := by
  cases op <;> simp only [AOp.cls] at hc <;> first
    | cases hc
    | skip
  case alc z =>
    simp only [evo2] at he
    split at he
    · rename_i hl; cases he; exact ⟨hl, rfl, ⟨_, rfl⟩, rfl, fun L' h' e => by simp only [evo2, e]⟩
    · cases he
  case bx x =>
    simp only [evo2] at he
    split at he
    · rename_i hl
      split at he
      · rename_i a ha
        split at he
        · rename_i cs hcs; cases he; exact ⟨hl, rfl, ⟨_, rfl⟩, rfl, fun L' h' e => by simp only [evo2, e, ha, hcs]⟩
        · cases he
      · cases he
    · cases he

theorem cls5 {op : AOp} (hc : op.cls = 5) {d : Nat} {X : AX → TV} {L : Nat → Option (List AV)} {h : List AO} {r : TV × Option (Bool × Nat × List AV) × List AO} (he : evo2 d op X L h = some r) :
    r = (r.1, none, h) ∧ ∀ h', evo2 d op X L h' = some (r.1, none, h') := by
  cases op <;> simp only [AOp.cls] at hc <;> first
    | cases hc
    | skip
  case ldl n ag x =>
    simp only [evo2] at he ⊢
    split at he
    · rename_i k off hx
      split at he
      · rename_i cs hl
        split at he
        · rename_i y hr; cases he; exact ⟨rfl, fun h' => by simp [hx, hl, hr]⟩
        · cases he
      · cases he
    · cases he

/-- What is done to local variables. -/
theorem shape {op : AOp} {d : Nat} {X : AX → TV} {L : Nat → Option (List AV)} {h : List AO} {r : TV × Option (Bool × Nat × List AV) × List AO} (he : evo2 d op X L h = some r) :
    r.2.1 = none ∨ (∃ k c, r.2.1 = some (false, k, c) ∧ L k ≠ none) ∨ (∃ c, r.2.1 = some (true, d, c) ∧ L d = none ∧ op.alo = true) := by
  cases op <;> simp only [evo2] at he <;> (repeat' split at he) <;> first
    | (cases he; exact .inl rfl)
    | (cases he; exact .inr (.inl ⟨_, _, rfl, by simp_all⟩))
    | (cases he; exact .inr (.inr ⟨_, rfl, by assumption, rfl⟩))
    | cases he
    | skip

theorem rd_nolp {n : Nat} {ag : Bool} {cs : List AV} {x : TV} (h : rd n ag cs = some x) {k off : Nat} (e : x = .lp k off) : False := by
  unfold rd at h
  split at h
  · split at h
    · cases h; cases e
    · split at h
      · cases h; cases e
      · cases h
  · cases h
/-- Pointers to local variables come from elsewhere, or are new. -/
theorem evo2_live {op : AOp} {d : Nat} {X : AX → TV} {L : Nat → Option (List AV)} {h : List AO} {r : TV × Option (Bool × Nat × List AV) × List AO} (he : evo2 d op X L h = some r) {k off : Nat} (hr : r.1 = .lp k off) :
    (∃ x ∈ op.axs, ∃ o, X x = .lp k o) ∨ (k = d ∧ ∃ c, r.2.1 = some (true, d, c)) := by
  cases op <;> simp only [evo2] at he <;> (repeat' split at he) <;> first
    | (cases he; cases hr; done)
    | (cases he; cases hr; exact .inr ⟨rfl, _, rfl⟩)
    | (cases he; exact (rd_nolp (by assumption) hr).elim)
    | (cases he; exact .inl ⟨_, List.mem_singleton.2 rfl, _, hr⟩)
    | (cases he; exact .inl ⟨_, List.mem_cons_of_mem _ (List.mem_cons_self ..), _, hr⟩)
    | (cases he; exact .inl ⟨_, List.mem_cons_of_mem _ (List.mem_cons_of_mem _ (List.mem_cons_self ..)), _, hr⟩)
    | (cases he; cases hr; exact .inl ⟨_, List.mem_singleton.2 rfl, _, by assumption⟩)
    | cases he
    | skip
end Go.Ab
