/- Iterators: what is yielded, whatever is done with it. Conditions: none. -/
import Derived.Test.YtnkblnmcabfbmaaLw
set_option linter.unusedVariables false
set_option linter.unusedSimpArgs false
set_option maxRecDepth 100000
set_option maxHeartbeats 2000000
namespace Go.Ab
open Go.RowKit Go.Proofs

variable {α S E : Type}
/-- What comes of a state, element by element; right: the loop is left; none: nothing is said. -/
def fold (stp : S → α → Option (S ⊕ E)) : List α → S → Option (S ⊕ E)
  | [], s => some (.inl s)
  | x :: r, s => match stp s x with
    | some (.inl s') => fold stp r s'
    | some (.inr e) => some (.inr e)
    | none => none
theorem fold_app (stp : S → α → Option (S ⊕ E)) : ∀ (a b : List α) (s : S), fold stp (a ++ b) s = match fold stp a s with
    | some (.inl s') => fold stp b s'
    | some (.inr e) => some (.inr e)
    | none => none
  | [], b, s => rfl
  | x :: a, b, s => by
    rw [List.cons_append, fold, fold]
    cases stp s x with
    | none => rfl
    | some r => cases r with
      | inl s' => exact fold_app stp a b s'
      | inr e => rfl
/-- The heap of a state. -/
def hp (W : S → List AO) (WE : E → List AO) : S ⊕ E → List AO
  | .inl s => W s
  | .inr e => WE e
@[go_sem] theorem hp_inl (W : S → List AO) (WE : E → List AO) (s : S) : hp W WE (.inl s) = W s := rfl
@[go_sem] theorem hp_inr (W : S → List AO) (WE : E → List AO) (e : E) : hp W WE (.inr e) = WE e := rfl
def isL : S ⊕ E → Bool
  | .inl _ => true
  | .inr _ => false
/-- A yield y, on heaps of n objects that stand for states: what is done with each element. -/
structure Ys (y : AV) (n : Nat) (enc : α → List AV) (W : S → List AO) (WE : E → List AO) (stp : S → α → Option (S ⊕ E)) : Prop where
  one : y.one = true
  lt : Lt n y
  len : ∀ r, (hp W WE r).length = n
  fr : ∀ s r (id : Nat) (o : AO), (hp W WE r)[id]? = some o → (W s)[id]? = some o ∨ LtO n o
  call : ∀ s x X r, stp s x = some r → cfl T y (enc x) (W s ++ X) = some (.ret (.bool (isL r)), hp W WE r ++ X)
/-- What an iterator's value yields. -/
def IsSeq (fv : AV) (enc : α → List AV) (xs : List α) : Prop :=
  ∀ (S E : Type) (y : AV) (n : Nat) (W : S → List AO) (WE : E → List AO) (stp : S → α → Option (S ⊕ E)), Ys y n enc W WE stp → ∀ s X r, fold stp xs s = some r → cfl T fv [y] (W s ++ X) = some (.ret (.tup []), hp W WE r ++ X)

theorem Lt.mono {n m : Nat} (hm : n ≤ m) {a : AV} (h : Lt n a) : Lt m a := by
  induction h with
  | bool b => exact .bool b
  | int k x => exact .int k x
  | str s => exact .str s
  | nilp => exact .nilp
  | ptr h => exact .ptr (by omega)
  | nils z => exact .nils z
  | sl h ih => exact .sl ih
  | ol h => exact .ol (by omega)
  | nilm => exact .nilm
  | fmap hk hv ihk ihv => exact .fmap ihk ihv
  | mp h => exact .mp (by omega)
  | fn ha hb iha ihb => exact .fn iha ihb
  | nilf => exact .nilf
  | agg h ih => exact .agg ih
  | tup h ih => exact .tup ih
  | iface h ih => exact .iface ih
  | nili => exact .nili
  | fp h ih => exact .fp ih
  | yd h => exact .yd (by omega)
  | ze => exact .ze
  | junk => exact .junk
theorem LtO.mono {n m : Nat} (hm : n ≤ m) {o : AO} (h : LtO n o) : LtO m o := by
  cases o with
  | dead => trivial
  | box cs => exact fun a ha => (h a ha).mono hm
  | lst v s es => exact fun a ha => (h a ha).mono hm
  | mapo es => exact ⟨fun p hp => (h.1 p hp).mono hm, fun p hp => (h.2 p hp).mono hm⟩
  | dfr => trivial
  | slp st k t ps x y => exact fun p hp => (h p hp).mono hm
theorem fin1_yd {H A X J : List AO} {r : Res} (hlen : A.length = H.length) (hfr : ∀ (id : Nat) (o : AO), A[id]? = some o → H[id]? = some o ∨ LtO H.length o) (hr : LtR (H ++ X).length r) : fin1F (H ++ X) r (A ++ X ++ J) = some (r, A ++ X) := by
  unfold fin1F
  have e : (A ++ X ++ J).take (H ++ X).length = A ++ X := List.take_left' (by simp [hlen])
  have hc : ∀ (id : Nat) (o : AO), (A ++ X ++ J)[id]? = some o → id < (H ++ X).length → (H ++ X)[id]? = some o ∨ LtO (H ++ X).length o := by
   intro id o ho hi
   have hi2 : id < (A ++ X).length := by rw [List.length_append] at hi ⊢; omega
   rw [List.getElem?_append_left hi2] at ho
   by_cases h1 : id < A.length
   · rw [List.getElem?_append_left h1] at ho
     rcases hfr id o ho with k | k
     · exact .inl (by rw [List.getElem?_append_left (by omega)]; exact k)
     · exact .inr (k.mono (by simp))
   · rw [List.getElem?_append_right (by omega)] at ho
     exact .inl (by rw [List.getElem?_append_right (by omega), ← hlen]; exact ho)
  rw [if_pos ⟨hr, hc⟩, e]
@[go_sem] theorem lt_fp {n : Nat} {l : List AV} : Lt n (.fp l) = ∀ a ∈ l, Lt n a := propext ⟨fun h => by cases h; assumption, .fp⟩
@[go_sem] theorem lt_yd {n id : Nat} : Lt n (.yd id) = (id < n) := propext ⟨fun h => by cases h; assumption, .yd⟩

/-! ### A frame that ranges over a function, asleep -/
def lstO (JE : E → Jmp) : S ⊕ E → LSt
  | .inl _ => .ready
  | .inr e => .done (JE e)
theorem yEnd_mid {H D D' X J : List AO} {nn : Nat} {t : List (Nat × AV)} {ps : List Nat} {asg body : FC} {st : LSt} {b : Bool} (hl : D'.length = D.length)
    (hfr : ∀ (i : Nat) (o : AO), D'[i]? = some o → D[i]? = some o ∨ LtO (H.length + D.length + 2) o) (ht : ∀ p ∈ t, Lt (H.length + D.length + 2) p.2) :
    yEndF (H ++ (D ++ (.dfr :: .slp .ready nn t ps asg body :: X))) (H.length + D.length + 1) st b (H ++ (D' ++ (.dfr :: .slp .busy nn t ps asg body :: (X ++ J)))) = some (.ret (.bool b), H ++ (D' ++ (.dfr :: .slp st nn t ps asg body :: X))) := by
  have hg : (H ++ (D' ++ (.dfr :: .slp .busy nn t ps asg body :: (X ++ J))))[H.length + D.length + 1]? = some (.slp .busy nn t ps asg body) := by
    rw [List.getElem?_append_right (by omega), List.getElem?_append_right (by omega), show H.length + D.length + 1 - H.length - D'.length = 1 by omega]; rfl
  rw [yEndF_at hg]
  have hs : (H ++ (D' ++ (.dfr :: .slp .busy nn t ps asg body :: (X ++ J)))).set (H.length + D.length + 1) (.slp st nn t ps asg body) = (H ++ (D' ++ (.dfr :: .slp st nn t ps asg body :: X))) ++ J := by
    rw [List.set_append_right _ _ (by omega), List.set_append_right _ _ (by omega), show H.length + D.length + 1 - H.length - D'.length = 1 by omega]; simp
  rw [hs]
  unfold fin1F
  have hlen : (H ++ (D ++ (.dfr :: .slp .ready nn t ps asg body :: X))).length = (H ++ (D' ++ (.dfr :: .slp st nn t ps asg body :: X))).length := by simp [hl]
  have hle : H.length + D.length + 2 ≤ (H ++ (D ++ (AO.dfr :: .slp .ready nn t ps asg body :: X))).length := by simp; omega
  rw [List.take_left' hlen.symm, if_pos]
  refine ⟨.bool _, fun id o ho hi => ?_⟩
  rw [hlen] at hi
  rw [List.getElem?_append_left hi] at ho
  by_cases h1 : id < H.length
  · rw [List.getElem?_append_left h1] at ho ⊢; exact .inl ho
  rw [List.getElem?_append_right (by omega)] at ho ⊢
  by_cases h2 : id - H.length < D.length
  · rw [List.getElem?_append_left (by omega)] at ho ⊢
    rcases hfr _ _ ho with k | k
    · exact .inl k
    · exact .inr (k.mono hle)
  rw [List.getElem?_append_right (by omega), hl] at ho
  rw [List.getElem?_append_right (by omega)]
  match hj : id - H.length - D.length, ho with
  | 0, ho => exact .inl ho
  | 1, ho => simp at ho; subst ho; exact .inr fun p hp => (ht p hp).mono hle
  | j + 2, ho => exact .inl ho
/-- A round's states, from what one round does. -/
theorem ys_of (H : List AO) (k : Nat) (enc : α → List AV) (D : S → List AO) (DE : E → List AO) (JE : E → Jmp) (stp : S → α → Option (S ⊕ E)) (nn : Nat) (t : List (Nat × AV)) (ps : List Nat) (asg body : FC) (ha : asg.okd = true) (hb : body.okd = true) (hps : ∀ x, (enc x).length = ps.length)
    (hk : ∀ r, (hp D DE r).length = k) (hfr : ∀ s r (i : Nat) (o : AO), (hp D DE r)[i]? = some o → (D s)[i]? = some o ∨ LtO (H.length + k + 2) o) (ht : ∀ p ∈ t, Lt (H.length + k + 2) p.2)
    (call : ∀ s x X r, stp s x = some r → ∃ J, aw T asg (yK T (H ++ (D s ++ (.dfr :: .slp .ready nn t ps asg body :: X))) (H.length + k + 1) body) ⟨setPs ps (enc x) ⟨nn, rnd0 t⟩, [], H ++ (D s ++ (.dfr :: .slp .ready nn t ps asg body :: X)), [H.length + k + 1]⟩ =
      yEndF (H ++ (D s ++ (.dfr :: .slp .ready nn t ps asg body :: X))) (H.length + k + 1) (lstO JE r) (isL r) (H ++ (hp D DE r ++ (.dfr :: .slp .busy nn t ps asg body :: (X ++ J))))) :
    Ys (.yd (H.length + k + 1)) (H.length + k + 2) enc (fun s => H ++ (D s ++ [.dfr, .slp .ready nn t ps asg body])) (fun e => H ++ (DE e ++ [.dfr, .slp (.done (JE e)) nn t ps asg body])) stp := by
  have hhp : ∀ r : S ⊕ E, hp (fun s => H ++ (D s ++ [AO.dfr, .slp .ready nn t ps asg body])) (fun e => H ++ (DE e ++ [.dfr, .slp (.done (JE e)) nn t ps asg body])) r = H ++ (hp D DE r ++ [.dfr, .slp (lstO JE r) nn t ps asg body]) := fun r => by cases r <;> rfl
  have hkD : ∀ s, (D s).length = k := fun s => hk (.inl s)
  refine ⟨rfl, .yd (by omega), fun r => ?_, fun s r id o ho => ?_, fun s x X r hst => ?_⟩
  · rw [hhp]; have := hk r; simp; omega
  · rw [hhp] at ho
    by_cases h1 : id < H.length
    · rw [List.getElem?_append_left h1] at ho ⊢; exact .inl ho
    rw [List.getElem?_append_right (by omega)] at ho ⊢
    by_cases h2 : id - H.length < k
    · rw [List.getElem?_append_left (by rw [hk]; omega)] at ho
      rw [List.getElem?_append_left (by rw [hkD]; omega)]
      exact hfr s r _ _ ho
    rw [List.getElem?_append_right (by rw [hk]; omega), hk] at ho
    rw [List.getElem?_append_right (by rw [hkD]; omega), hkD]
    match hj : id - H.length - k, ho with
    | 0, ho => exact .inl ho
    | 1, ho => simp at ho; subst ho; exact .inr ht
    | j + 2, ho => simp at ho
  · obtain ⟨J, e⟩ := call s x X r hst
    rw [hhp]
    have hg : (H ++ (D s ++ (AO.dfr :: .slp .ready nn t ps asg body :: X)))[H.length + k + 1]? = some (.slp .ready nn t ps asg body) := by
      rw [List.getElem?_append_right (by omega), List.getElem?_append_right (by rw [hkD]; omega), hkD, show H.length + k + 1 - H.length - k = 1 by omega]; rfl
    simp only [List.append_assoc, List.cons_append, List.nil_append]
    rw [cfl_yd hg (hps x) ha hb, e]
    have := yEnd_mid (H := H) (D := D s) (D' := hp D DE r) (X := X) (J := J) (nn := nn) (t := t) (ps := ps) (asg := asg) (body := body) (st := lstO JE r) (b := isL r) (by rw [hk, hkD]) (fun i o h => by rw [hkD]; exact hfr s r i o h) (by rw [hkD]; exact ht)
    rw [hkD] at this
    exact this
/-- How a loop over a function ends. -/
theorem rf_end {H DR : List AO} {k : Nat} (hk : DR.length = k) {st : LSt} {nn : Nat} {t : List (Nat × AV)} {ps : List Nat} {asg body : FC} :
    (H ++ (DR ++ [AO.dfr, .slp st nn t ps asg body]))[H.length + k + 1]? = some (.slp st nn t ps asg body) ∧ (H ++ (DR ++ [AO.dfr, .slp st nn t ps asg body])).set (H.length + k + 1) .dead = H ++ (DR ++ [.dfr, .dead]) := by
  constructor
  · rw [List.getElem?_append_right (by omega), List.getElem?_append_right (by omega), show H.length + k + 1 - H.length - DR.length = 1 by omega]; rfl
  · rw [List.set_append_right _ _ (by omega), List.set_append_right _ _ (by omega), show H.length + k + 1 - H.length - DR.length = 1 by omega]; rfl
end Go.Ab
