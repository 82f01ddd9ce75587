/- What is named in a level, from the left on. Conditions: none. -/
import Derived.Test.YtnkblnmcabfbmaaIt
set_option linter.unusedVariables false
set_option linter.unusedSimpArgs false
set_option maxRecDepth 100000
set_option maxHeartbeats 2000000
namespace Go.Ab
open Go.RowKit Go.Proofs

mutual
def namesL (kind : Int) : Lv → List Int
  | .mk k n ks => if k = kind then [n] else namesLs kind ks
def namesLs (kind : Int) : List Lv → List Int
  | [] => []
  | x :: r => namesL kind x ++ namesLs kind r
end
abbrev encI (n : Int) : List AV := [.int .i64 n]
def namedV (l : Lv) (kind : Int) : AV := .fn (.func lsub_named_1) [] [.fp l.cs, .fp [.int .i64 kind]]
theorem lcs_cells (l : Lv) : (AV.agg l.cs).cellsN (AV.agg l.cs).cells.length = some l.cs := by cases l; rfl
theorem named_ok (l : Lv) (kind : Int) (H : List AO) : F lsub_named [.agg l.cs, .int .i64 kind] H = some (.ret (namedV l kind), H) := by
  rw [f_lsub_named]
  cases l with
  | mk k n ks =>
  have h : Lt H.length (.fn (.func lsub_named_1) [] [.fp [.int .i64 k, .int .i64 n, .sl (Lv.css ks)], .fp [.int .i64 kind]]) = True := by
    simp only [eq_iff_iff, iff_true]
    refine .fn (by simp) ?_
    intro x hx
    simp at hx
    rcases hx with rfl | rfl
    · exact .fp (cs_lt H.length (.mk k n ks))
    · exact .fp (by intro a ha; simp at ha; subst ha; exact .int _ _)
  simp only [↓reduceIte, go_sem, namedV, Lv.cs, h]

theorem named_leaf (k n : Int) (ks : List Lv) (kind : Int) (hk : k = kind) {S E : Type} (y : AV) (m : Nat) (W : S → List AO) (WE : E → List AO) (stp : S → Int → Option (S ⊕ E)) (hy : Ys y m encI W WE stp) (s : S) (X : List AO) (r : S ⊕ E) (hr : fold stp [n] s = some r) :
    F lsub_named_1 [y, .fp (Lv.mk k n ks).cs, .fp [.int .i64 kind]] (W s ++ X) = some (.ret (.tup []), hp W WE r ++ X) := by
  have hst : stp s n = some r := by
    unfold fold at hr
    cases h : stp s n with
    | none => rw [h] at hr; cases hr
    | some q => rw [h] at hr; cases q <;> exact hr
  have hc := hy.call s n X r hst
  have l1 := hy.len (.inl s)
  have l2 := hy.len r
  have hone := hy.one
  have hcell : y.cells = [y] := by cases y <;> first | rfl | (simp [AV.one] at hone)
  unfold AV.cells at hcell
  unfold AV.one at hone
  have hf := fin1_yd (H := W s) (A := hp W WE r) (X := X) (J := []) (r := .ret (.tup [])) (by rw [l2]; exact l1.symm) (by rw [show (W s).length = m from l1]; exact hy.fr s r) (show Lt _ _ from .tup (by simp))
  rw [List.append_nil] at hf
  rw [f_lsub_named_1]
  subst hk
  simp only [↓reduceIte, go_sem, Lv.cs, hone, hcell, hc]
  exact hf

/-- The frame of a named that ranges over a kid's, asleep. -/
def slpN (y : AV) (st : LSt) : AO := .slp st 31 [(3, .fp [y])] [25] s_lsub_named_1_0 y_lsub_named_1_0
theorem fin1_mid {A A' W Z : List AO} {o o' : AO} {r : Res} (hlen : A'.length = A.length) (hfr : ∀ (id : Nat) (x : AO), A'[id]? = some x → A[id]? = some x ∨ LtO A.length x) (ho : LtO (A ++ (W ++ o :: Z)).length o') (hr : LtR (A ++ (W ++ o :: Z)).length r) :
    fin1F (A ++ (W ++ o :: Z)) r (A' ++ (W ++ o' :: Z)) = some (r, A' ++ (W ++ o' :: Z)) := by
  unfold fin1F
  have e : (A' ++ (W ++ o' :: Z)).take (A ++ (W ++ o :: Z)).length = A' ++ (W ++ o' :: Z) := List.take_of_length_le (by simp [hlen])
  have hc : ∀ (id : Nat) (x : AO), (A' ++ (W ++ o' :: Z))[id]? = some x → id < (A ++ (W ++ o :: Z)).length → (A ++ (W ++ o :: Z))[id]? = some x ∨ LtO (A ++ (W ++ o :: Z)).length x := by
    intro id x hx hi
    by_cases h1 : id < A'.length
    · rw [List.getElem?_append_left h1] at hx
      rcases hfr id x hx with k | k
      · exact .inl (by rw [List.getElem?_append_left (by omega)]; exact k)
      · exact .inr (k.mono (by simp))
    · rw [List.getElem?_append_right (by omega)] at hx
      rw [List.getElem?_append_right (by omega), ← hlen]
      by_cases h2 : id - A'.length < W.length
      · rw [List.getElem?_append_left h2] at hx ⊢; exact .inl hx
      · rw [List.getElem?_append_right (by omega)] at hx ⊢
        cases h3 : id - A'.length - W.length with
        | zero => rw [h3] at hx; simp at hx; subst hx; exact .inr ho
        | succ j => rw [h3] at hx; simp at hx ⊢; exact .inl hx
  rw [if_pos ⟨hr, hc⟩, e]

theorem mid_get {A W Z : List AO} {o : AO} : (A ++ (W ++ o :: Z))[A.length + W.length]? = some o := by
  rw [List.getElem?_append_right (by omega), List.getElem?_append_right (by omega)]; simp
theorem mid_set {A W Z : List AO} {o p : AO} : (A ++ (W ++ o :: Z)).set (A.length + W.length) p = A ++ (W ++ p :: Z) := by
  rw [List.set_append_right _ _ (by omega), List.set_append_right _ _ (by omega)]; simp
theorem named_ys {S E : Type} {y : AV} {m : Nat} {W : S → List AO} {WE : E → List AO} {stp : S → Int → Option (S ⊕ E)} (hy : Ys y m encI W WE stp) (V : List AO) :
    Ys (.yd (m + V.length)) (m + V.length + 1) encI (fun s => W s ++ (V ++ [slpN y .ready])) (fun e => WE e ++ (V ++ [slpN y (.done .ret)])) stp := by
  have hhp : ∀ r : S ⊕ E, hp (fun s => W s ++ (V ++ [slpN y .ready])) (fun e => WE e ++ (V ++ [slpN y (.done .ret)])) r = hp W WE r ++ (V ++ [slpN y (if isL r = true then .ready else .done .ret)]) := fun r => by cases r <;> rfl
  refine ⟨rfl, .yd (by omega), ?_, ?_, ?_⟩
  · intro r
    have := hy.len r
    rw [hhp]; simp; omega
  · intro s r id o ho
    have l1 := hy.len (.inl s)
    have l2 := hy.len r
    have l1 : (W s).length = m := l1
    rw [hhp] at ho
    by_cases h1 : id < m
    · rw [List.getElem?_append_left (by omega)] at ho
      rcases hy.fr s r id o ho with k | k
      · exact .inl (by rw [List.getElem?_append_left (by omega)]; exact k)
      · exact .inr (k.mono (by omega))
    · rw [List.getElem?_append_right (by omega)] at ho
      rw [List.getElem?_append_right (by omega), l1, ← l2]
      by_cases h2 : id - (hp W WE r).length < V.length
      · rw [List.getElem?_append_left h2] at ho ⊢; exact .inl ho
      · rw [List.getElem?_append_right (by omega)] at ho
        cases h3 : id - (hp W WE r).length - V.length with
        | zero =>
          rw [h3] at ho; simp at ho; subst ho
          refine .inr fun p hp => ?_
          simp at hp; subst hp
          exact .fp (by intro a ha; simp at ha; subst ha; exact hy.lt.mono (by omega))
        | succ j => rw [h3] at ho; simp at ho
  · intro s x Z r hst
    rw [hhp]
    have hl : (W s).length = m := hy.len (.inl s)
    have hl2 := hy.len r
    have hfr : ∀ (id : Nat) (o : AO), (hp W WE r)[id]? = some o → (W s)[id]? = some o ∨ LtO (W s).length o := by rw [hl]; exact hy.fr s r
    have hc := hy.call s x (V ++ slpN y .busy :: Z) r hst
    have hlt : ∀ (st : LSt), LtO (W s ++ (V ++ slpN y .ready :: Z)).length (slpN y st) := fun st p hp => by
      simp at hp; subst hp
      exact .fp (by intro a ha; simp at ha; subst ha; exact hy.lt.mono (by simp; omega))
    have g1 : (W s ++ (V ++ slpN y .ready :: Z))[m + V.length]? = some (slpN y .ready) := by rw [← hl]; exact mid_get
    have s1 : (W s ++ (V ++ slpN y .ready :: Z)).set (m + V.length) (slpN y .busy) = W s ++ (V ++ slpN y .busy :: Z) := by rw [← hl]; exact mid_set
    have g2 : (hp W WE r ++ (V ++ slpN y .busy :: Z))[m + V.length]? = some (slpN y .busy) := by rw [← hl2]; exact mid_get
    have s2 : ∀ st, (hp W WE r ++ (V ++ slpN y .busy :: Z)).set (m + V.length) (slpN y st) = hp W WE r ++ (V ++ slpN y st :: Z) := fun st => by rw [← hl2]; exact mid_set
    have e1 : ∀ st b, yEndF (W s ++ (V ++ slpN y .ready :: Z)) (m + V.length) st b (hp W WE r ++ (V ++ slpN y .busy :: Z)) = some (.ret (.bool b), hp W WE r ++ (V ++ slpN y st :: Z)) := fun st b => by
      have := yEndF_at (H := W s ++ (V ++ slpN y .ready :: Z)) (st := st) (b := b) g2
      rw [this]
      show fin1F _ _ ((hp W WE r ++ (V ++ slpN y .busy :: Z)).set (m + V.length) (slpN y st)) = _
      rw [s2 st]
      exact fin1_mid (by rw [hl2, hl]) hfr (hlt st) (.bool _)
    simp only [List.append_assoc, List.cons_append, List.nil_append]
    rw [cfl_yd g1 rfl o_s_lsub_named_1_0 o_y_lsub_named_1_0]
    unfold slpN at g1 s1 hc e1
    unfold slpN
    cases h : isL r with
    | true => simp only [↓reduceIte, go_sem, g1, s1, hc, h, e1]
    | false => simp only [↓reduceIte, go_sem, g1, s1, hc, h, e1]
end Go.Ab
