/- Part U: operations whose order is open change places. Conditions: none. -/
import Derived.Test.YtnkblnmcabfbmaaAbsT
set_option linter.unusedVariables false
set_option linter.unusedSimpArgs false
namespace Go.Ab

def AX.tmp : AX → List Nat
  | .t i => [i]
  | .c _ => []
def AK.axs : AK → List AX
  | .o op | .fo op => op.axs
  | .call f l | .callW f l => f :: l
  | .pan x => [x]
def AI.xs (i : AI) : List AX := i.k.axs ++ (match i.g with
  | some (j, _) => [.t j]
  | none => [])
def AI.reads (i : AI) : List Nat := (i.xs.map AX.tmp).flatten
def AI.cls (i : AI) : Nat := match i.k with
  | .o op => op.cls
  | .call _ _ => 4
  | .callW _ _ => 6
  | _ => 3
def AI.alo (i : AI) : Bool := match i.k with
  | .o op => op.alo
  | _ => false

abbrev Rr := TV × Option (Bool × Nat × List AV) × List AO
def actK (CC : CallP) (i : AI) (X : AX → TV) (L : Nat → Option (List AV)) (h : List AO) (r : Rr) : Prop :=
  match i.k with
  | .o op => evo2 (i.d.getD 0) op X L h = some r
  | .call f args => ∃ c vs v, (X f).av = some c ∧ as2 X args = some vs ∧ CC c vs h (fun q h' => q = .ret v ∧ h' = h) ∧ r = (.v v, none, h)
  | .callW f args => ∃ c vs v h1, (X f).av = some c ∧ as2 X args = some vs ∧ CC c vs h (fun q h' => q = .ret v ∧ h' = h1) ∧ r = (.v v, none, h1)
  | _ => False
def actG (CC : CallP) (i : AI) (X : AX → TV) (L : Nat → Option (List AV)) (h : List AO) (r : Rr) : Prop :=
  match i.g with
  | none => actK CC i X L h r
  | some (j, w) => (X (.t j) = .v (.bool w) ∧ actK CC i X L h r) ∨ ((X (.t j) = .v (.bool (!w)) ∨ X (.t j) = .und) ∧ r = (.und, none, h))
def St.app (σ : St) (d : Option Nat) (r : Rr) : St := ({ σ with ls := ape r.2.1 σ.ls, h := r.2.2 } : St).put d r.1

theorem stepG_iff {CC : CallP} {i : AI} {σ σ' : St} : stepG CC i σ σ' ↔ ∃ r, actG CC i σ.x (fun k => look k σ.ls) σ.h r ∧ σ' = σ.app i.d r := by
  have key : stepK CC i σ σ' ↔ ∃ r, actK CC i σ.x (fun k => look k σ.ls) σ.h r ∧ σ' = σ.app i.d r := by
    unfold stepK actK
    cases i.k with
    | o op =>
      dsimp only
      rw [evo_eq]
      constructor
      · rintro ⟨x, σ1, h, rfl⟩
        cases he : evo2 (i.d.getD 0) op σ.x (fun k => look k σ.ls) σ.h with
        | none => rw [he] at h; cases h
        | some r => rw [he] at h; cases h; exact ⟨r, rfl, rfl⟩
      · rintro ⟨r, h, rfl⟩
        exact ⟨_, _, by rw [h]; rfl, rfl⟩
    | fo op => exact ⟨fun h => h.elim, fun ⟨_, h, _⟩ => h.elim⟩
    | pan op => exact ⟨fun h => h.elim, fun ⟨_, h, _⟩ => h.elim⟩
    | call f l =>
      dsimp only
      simp only [as2_eq, St.a]
      exact ⟨fun ⟨c, vs, v, h1, h2, h3, h4⟩ => ⟨_, ⟨c, vs, v, h1, h2, h3, rfl⟩, h4⟩, fun ⟨r, ⟨c, vs, v, h1, h2, h3, h5⟩, h4⟩ => ⟨c, vs, v, h1, h2, h3, by rw [h4, h5]; rfl⟩⟩
    | callW f l =>
      dsimp only
      simp only [as2_eq, St.a]
      exact ⟨fun ⟨c, vs, v, h, h1, h2, h3, h4⟩ => ⟨_, ⟨c, vs, v, h, h1, h2, h3, rfl⟩, h4⟩, fun ⟨r, ⟨c, vs, v, h, h1, h2, h3, h5⟩, h4⟩ => ⟨c, vs, v, h, h1, h2, h3, by rw [h4, h5]; rfl⟩⟩
  unfold stepG actG
  cases i.g with
  | none => exact key
  | some jw =>
    obtain ⟨j, w⟩ := jw
    dsimp only
    constructor
    · rintro (⟨h2, h3⟩ | ⟨h2, rfl⟩)
      · obtain ⟨r, h4, h5⟩ := key.1 h3
        exact ⟨r, .inl ⟨h2, h4⟩, h5⟩
      · exact ⟨(.und, none, σ.h), .inr ⟨h2, rfl⟩, rfl⟩
    · rintro ⟨r, ⟨h2, h3⟩ | ⟨h2, rfl⟩, h5⟩
      · exact .inl ⟨h2, key.2 ⟨r, h3, h5⟩⟩
      · exact .inr ⟨h2, h5⟩

theorem cls_le (op : AOp) : op.cls = 0 ∨ op.cls = 1 ∨ op.cls = 2 ∨ op.cls = 3 ∨ op.cls = 5 := by cases op <;> simp [AOp.cls]
theorem alo_cls {op : AOp} (h : op.alo = true) : op.cls = 2 ∨ op.cls = 3 := by cases op <;> simp [AOp.alo, AOp.cls] at h ⊢

theorem act_shape {CC : CallP} {i : AI} {X : AX → TV} {L : Nat → Option (List AV)} {h : List AO} {r : Rr} (ha : actG CC i X L h r) :
    r.2.1 = none ∨ (∃ k c, r.2.1 = some (false, k, c) ∧ L k ≠ none ∧ i.cls = 3) ∨ (∃ c, r.2.1 = some (true, i.d.getD 0, c) ∧ L (i.d.getD 0) = none ∧ i.alo = true) := by
  have key : actK CC i X L h r → _ := fun ha => show r.2.1 = none ∨ (∃ k c, r.2.1 = some (false, k, c) ∧ L k ≠ none ∧ i.cls = 3) ∨ (∃ c, r.2.1 = some (true, i.d.getD 0, c) ∧ L (i.d.getD 0) = none ∧ i.alo = true) by
    unfold actK at ha
    unfold AI.cls AI.alo
    cases hk : i.k with
    | o op =>
      rw [hk] at ha
      dsimp only at ha ⊢
      rcases shape ha with e | ⟨k, c, e, hl⟩ | ⟨c, e, hl, halo⟩
      · exact .inl e
      · rcases cls_le op with hc | hc | hc | hc | hc
        · rw [cls0 hc] at ha
          cases hq : evo2 0 op X (fun _ => none) [] with
          | none => rw [hq] at ha; cases ha
          | some q => rw [hq] at ha; cases ha; cases e
        · have := cls1 hc ha; rw [this] at e; cases e
        · obtain ⟨_, _, ⟨c', e'⟩, _⟩ := cls2 hc ha; rw [e'] at e; cases e
        · exact .inr (.inl ⟨k, c, e, hl, hc⟩)
        · have := (cls5 hc ha).1; rw [this] at e; cases e
      · exact .inr (.inr ⟨c, e, hl, halo⟩)
    | fo op => rw [hk] at ha; exact ha.elim
    | pan op => rw [hk] at ha; exact ha.elim
    | call f l => rw [hk] at ha; obtain ⟨_, _, _, _, _, _, e⟩ := ha; exact .inl (by rw [e])
    | callW f l => rw [hk] at ha; obtain ⟨_, _, _, _, _, _, _, e⟩ := ha; exact .inl (by rw [e])
  unfold actG at ha
  split at ha
  · exact key ha
  · obtain ⟨_, h3⟩ | ⟨_, rfl⟩ := ha
    · exact key h3
    · exact .inl rfl

theorem act_keep {CC : CallP} {i : AI} {X : AX → TV} {L : Nat → Option (List AV)} {h : List AO} {r : Rr} (ha : actG CC i X L h r) (hc : i.cls ≠ 3 ∧ i.cls ≠ 6) : r.2.2 = h := by
  have key : actK CC i X L h r → r.2.2 = h := fun ha => by
    unfold actK at ha
    unfold AI.cls at hc
    cases hk : i.k with
    | o op =>
      rw [hk] at ha hc
      dsimp only at ha hc
      rcases cls_le op with h1 | h1 | h1 | h1 | h1
      · rw [cls0 h1] at ha
        cases hq : evo2 0 op X (fun _ => none) [] with
        | none => rw [hq] at ha; cases ha
        | some q => rw [hq] at ha; cases ha; rfl
      · have := cls1 h1 ha; rw [this]
      · exact (cls2 h1 ha).2.2.2.1
      · exact absurd h1 hc.1
      · have := (cls5 h1 ha).1; rw [this]
    | fo op => rw [hk] at ha; exact ha.elim
    | pan op => rw [hk] at ha; exact ha.elim
    | call f l => rw [hk] at ha; obtain ⟨_, _, _, _, _, _, e⟩ := ha; rw [e]
    | callW f l => rw [hk] at hc; exact absurd rfl hc.2
  unfold actG at ha
  split at ha
  · exact key ha
  · obtain ⟨_, h3⟩ | ⟨_, rfl⟩ := ha
    · exact key h3
    · rfl

theorem as2_axs {X X' : AX → TV} {f : AX} {l : List AX} (h : ∀ x ∈ f :: l, X x = X' x) : X f = X' f ∧ as2 X l = as2 X' l :=
  ⟨h f (by simp), as2_congr fun x hx => h x (by simp [hx])⟩

/-- The same operation elsewhere. -/
theorem act_tr {CC : CallP} {i : AI} {X X' : AX → TV} {L L' : Nat → Option (List AV)} {h h' : List AO} {r : Rr} (ha : actG CC i X L h r) (hX : ∀ x ∈ i.xs, X x = X' x)
    (hL : i.cls = 0 ∨ (i.cls = 2 ∧ (L (i.d.getD 0) = none → L' (i.d.getD 0) = none)) ∨ ((i.alo = true → L (i.d.getD 0) = L' (i.d.getD 0)) ∧ ∀ x ∈ i.xs, ∀ k off, X x = .lp k off → L k = L' k))
    (hh : h' = h ∨ i.cls = 0 ∨ i.cls = 2 ∨ i.cls = 5) : ∃ r', actG CC i X' L' h' r' ∧ r'.1 = r.1 ∧ r'.2.1 = r.2.1 ∧ (h' = h → r'.2.2 = r.2.2) ∧ (i.cls = 0 ∨ i.cls = 2 ∨ i.cls = 5 → r'.2.2 = h') := by
  have key : actK CC i X L h r → ∃ r', actK CC i X' L' h' r' ∧ r'.1 = r.1 ∧ r'.2.1 = r.2.1 ∧ (h' = h → r'.2.2 = r.2.2) ∧ (i.cls = 0 ∨ i.cls = 2 ∨ i.cls = 5 → r'.2.2 = h') := fun ha => by
    have hXk : ∀ x ∈ i.k.axs, X x = X' x := fun x hx => hX x (by unfold AI.xs; simp [hx])
    have hLk : i.cls = 0 ∨ (i.cls = 2 ∧ (L (i.d.getD 0) = none → L' (i.d.getD 0) = none)) ∨ ((i.alo = true → L (i.d.getD 0) = L' (i.d.getD 0)) ∧ ∀ x ∈ i.k.axs, ∀ k off, X x = .lp k off → L k = L' k) := by
      rcases hL with k | k | k
      · exact .inl k
      · exact .inr (.inl k)
      · exact .inr (.inr ⟨k.1, fun x hx => k.2 x (by unfold AI.xs; simp [hx])⟩)
    unfold actK at ha ⊢
    unfold AI.cls AI.alo at hLk
    unfold AI.cls at hh ⊢
    cases hk : i.k with
    | o op =>
      rw [hk] at ha hh hLk hXk
      simp only [AK.axs] at hXk hLk
      dsimp only at ha hh hLk ⊢
      have zero : op.cls = 0 → ∃ r', evo2 (i.d.getD 0) op X' L' h' = some r' ∧ r'.1 = r.1 ∧ r'.2.1 = r.2.1 ∧ (h' = h → r'.2.2 = r.2.2) ∧ (op.cls = 0 ∨ op.cls = 2 ∨ op.cls = 5 → r'.2.2 = h') := fun h1 => by
        rw [cls0 h1] at ha ⊢
        rw [← evo2_congr (X := X) (L := fun _ => none) hXk (fun _ => rfl) (fun _ _ _ _ _ => rfl)]
        cases hq : evo2 0 op X (fun _ => none) [] with
        | none => rw [hq] at ha; cases ha
        | some q => rw [hq] at ha; cases ha; exact ⟨_, rfl, rfl, rfl, fun e => e, fun _ => rfl⟩
      have two : op.cls = 2 → (L (i.d.getD 0) = none → L' (i.d.getD 0) = none) → ∃ r', evo2 (i.d.getD 0) op X' L' h' = some r' ∧ r'.1 = r.1 ∧ r'.2.1 = r.2.1 ∧ (h' = h → r'.2.2 = r.2.2) ∧ (op.cls = 0 ∨ op.cls = 2 ∨ op.cls = 5 → r'.2.2 = h') := fun h1 hl => by
        obtain ⟨h2, h3, h4, h5, h6⟩ := cls2 h1 ha
        refine ⟨(r.1, r.2.1, h'), ?_, rfl, rfl, fun e => by rw [h5]; exact e, fun _ => rfl⟩
        have h7 := h6 L' h' (hl h2)
        rw [← h7]
        refine (evo2_congr hXk (fun _ => rfl) fun x hx k off e => ?_).symm
        rfl
      rcases cls_le op with h1 | h1 | h1 | h1 | h1
      · exact zero h1
      · rcases hLk with k | ⟨k, _⟩ | ⟨k1, k2⟩
        · omega
        · omega
        · have eh : h' = h := by rcases hh with e | e | e | e; exact e; omega; omega; omega
          subst eh
          exact ⟨r, by rw [← evo2_congr hXk k1 k2]; exact ha, rfl, rfl, fun _ => rfl, fun e => by omega⟩
      · rcases hLk with k | ⟨_, k⟩ | ⟨k1, k2⟩
        · omega
        · exact two h1 k
        · refine two h1 fun hl => ?_
          have halo : op.alo = true := by cases op <;> simp [AOp.cls, AOp.alo] at h1 ⊢
          rw [← k1 halo]; exact hl
      · rcases hLk with k | ⟨k, _⟩ | ⟨k1, k2⟩
        · omega
        · omega
        · have eh : h' = h := by rcases hh with e | e | e | e; exact e; omega; omega; omega
          subst eh
          exact ⟨r, by rw [← evo2_congr hXk k1 k2]; exact ha, rfl, rfl, fun _ => rfl, fun e => by omega⟩
      · rcases hLk with k | ⟨k, _⟩ | ⟨k1, k2⟩
        · omega
        · omega
        · obtain ⟨h2, h3⟩ := cls5 h1 ha
          refine ⟨(r.1, none, h'), ?_, rfl, by rw [h2], fun e => by rw [h2]; exact e, fun _ => rfl⟩
          rw [← evo2_congr (X := X) (L := L) hXk k1 k2]
          exact h3 h'
    | fo op => rw [hk] at ha; exact ha.elim
    | pan op => rw [hk] at ha; exact ha.elim
    | call f l =>
      rw [hk] at ha hh hXk
      obtain ⟨c, vs, v, h1, h2, h3, h4⟩ := ha
      obtain ⟨e1, e2⟩ := as2_axs hXk
      have eh : h' = h := by rcases hh with e | e | e | e; exact e; cases e; cases e; cases e
      subst eh
      exact ⟨r, ⟨c, vs, v, e1 ▸ h1, e2 ▸ h2, h3, h4⟩, rfl, rfl, fun _ => rfl, fun e => by rcases e with e | e | e <;> cases e⟩
    | callW f l =>
      rw [hk] at ha hh hXk
      obtain ⟨c, vs, v, hw, h1, h2, h3, h4⟩ := ha
      obtain ⟨e1, e2⟩ := as2_axs hXk
      have eh : h' = h := by rcases hh with e | e | e | e; exact e; cases e; cases e; cases e
      subst eh
      exact ⟨r, ⟨c, vs, v, hw, e1 ▸ h1, e2 ▸ h2, h3, h4⟩, rfl, rfl, fun _ => rfl, fun e => by rcases e with e | e | e <;> cases e⟩
  unfold actG at ha ⊢
  cases hg : i.g with
  | none => rw [hg] at ha; exact key ha
  | some jw =>
    obtain ⟨j, w⟩ := jw
    rw [hg] at ha
    dsimp only at ha ⊢
    have h2 : X (.t j) = X' (.t j) := hX _ (by unfold AI.xs; rw [hg]; simp)
    rcases ha with ⟨h3, h4⟩ | ⟨h3, rfl⟩
    · obtain ⟨r', k1, k2⟩ := key h4
      exact ⟨r', .inl ⟨h2 ▸ h3, k1⟩, k2⟩
    · exact ⟨(.und, none, h'), .inr ⟨h2 ▸ h3, rfl⟩, rfl, rfl, fun e => e, fun _ => rfl⟩

theorem act_live {CC : CallP} {i : AI} {X : AX → TV} {L : Nat → Option (List AV)} {h : List AO} {r : Rr} (ha : actG CC i X L h r) {k off : Nat} (hr : r.1 = .lp k off) : (∃ x ∈ i.xs, ∃ o, X x = .lp k o) ∨ ∃ c, r.2.1 = some (true, k, c) := by
  have key : actK CC i X L h r → (∃ x ∈ i.xs, ∃ o, X x = .lp k o) ∨ ∃ c, r.2.1 = some (true, k, c) := fun ha => by
    unfold actK at ha
    cases hk : i.k with
    | o op =>
      rw [hk] at ha
      rcases evo2_live ha hr with ⟨x, hx, o, e⟩ | ⟨rfl, e⟩
      · exact .inl ⟨x, by unfold AI.xs; rw [hk]; simp [AK.axs, hx], o, e⟩
      · exact .inr e
    | fo op => rw [hk] at ha; exact ha.elim
    | pan op => rw [hk] at ha; exact ha.elim
    | call f l => rw [hk] at ha; obtain ⟨_, _, _, _, _, _, e⟩ := ha; rw [e] at hr; cases hr
    | callW f l => rw [hk] at ha; obtain ⟨_, _, _, _, _, _, _, e⟩ := ha; rw [e] at hr; cases hr
  unfold actG at ha
  split at ha
  · exact key ha
  · obtain ⟨_, h3⟩ | ⟨_, rfl⟩ := ha
    · exact key h3
    · cases hr
end Go.Ab
