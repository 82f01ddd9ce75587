/- The stage's theorem on what levels are. Conditions: none. -/
import Derived.Test.YtnkblnmcabfbmaaLr
set_option linter.unusedVariables false
set_option linter.unusedSimpArgs false
set_option maxRecDepth 100000
set_option maxHeartbeats 2000000
namespace Go.Ab
open Go.RowKit Go.Proofs

def mxI (a b : Int) : Int := if b > a then b else a
mutual
/-- What a level is, by values. -/
def valL (xs ys : List Int) : Lv → Int
  | .mk k n ks => if k = 2 then 1 + (valLs xs ys ks).getD 0 0 else if k = 3 then mxI ((valLs xs ys ks).getD 0 0) ((valLs xs ys ks).getD 1 0)
    else if k = 4 then (if (valLs xs ys ks).getD 1 0 = 0 then 0 else mxI ((valLs xs ys ks).getD 0 0) ((valLs xs ys ks).getD 1 0)) else if k = 5 then xs.getD n.toNat 0 else if k = 6 then ys.getD n.toNat 0 else 0
def valLs (xs ys : List Int) : List Lv → List Int
  | [] => []
  | x :: r => valL xs ys x :: valLs xs ys r
end
def natsB (B : Int) (xs : List Int) : Prop := ∀ x ∈ xs, 0 ≤ x ∧ x ≤ B
theorem mxI_range {a b B : Int} (ha : 0 ≤ a ∧ a ≤ B) (hb : 0 ≤ b ∧ b ≤ B) : 0 ≤ mxI a b ∧ mxI a b ≤ B := by unfold mxI; split <;> omega
theorem getD_range {xs : List Int} {B : Int} (h : natsB B xs) (hB : 0 ≤ B) (i : Nat) : 0 ≤ xs.getD i 0 ∧ xs.getD i 0 ≤ B := by
  rw [List.getD_eq_getElem?_getD]
  cases e : xs[i]? with
  | none => simp; exact hB
  | some x => simp; exact h x (List.mem_of_getElem? e)
mutual
theorem valL_range {xs ys : List Int} {B : Int} (hx : natsB B xs) (hy : natsB B ys) (hB : 0 ≤ B) {p m : Int} : ∀ (l : Lv) (d : Int), rightB p m l d = true → 0 ≤ valL xs ys l ∧ valL xs ys l ≤ B + d
  | .mk k n ks, d, h => by
    obtain ⟨hd, _, _, _, _, _, hks⟩ := rightB_inv h
    have hv := valLs_range hx hy hB ks (d - 1) hks
    have g0 := getD_range hv (by omega) 0
    have g1 := getD_range hv (by omega) 1
    have gm := mxI_range g0 g1
    have gx := getD_range hx hB n.toNat
    have gy := getD_range hy hB n.toNat
    rw [valL]
    repeat' split
    all_goals omega
theorem valLs_range {xs ys : List Int} {B : Int} (hx : natsB B xs) (hy : natsB B ys) (hB : 0 ≤ B) {p m : Int} : ∀ (ks : List Lv) (d : Int), rightsB p m ks d = true → natsB (B + d) (valLs xs ys ks)
  | [], _, _ => by intro x hx; cases hx
  | x :: r, d, h => by
    rw [rightsB, Bool.and_eq_true] at h
    intro v hv
    rw [valLs] at hv
    rcases List.mem_cons.1 hv with rfl | hv
    · exact valL_range hx hy hB x d h.1
    · exact valLs_range hx hy hB r d h.2 v hv
end
theorem kids_one {k : Int} {ks : List Lv} (h : (ks.length : Int) = kids02 k) (hk : k = 2) : ∃ a, ks = [a] := by
  subst hk
  have : ks.length = 1 := by simp [kids02] at h; omega
  exact List.length_eq_one_iff.1 this
theorem kids_two {k : Int} {ks : List Lv} (h : (ks.length : Int) = kids02 k) (hk : k = 3 ∨ k = 4) : ∃ a b, ks = [a, b] := by
  have : ks.length = 2 := by rcases hk with rfl | rfl <;> simp [kids02] at h <;> omega
  match ks, this with
  | [a, b], _ => exact ⟨a, b, rfl⟩
theorem val02_ok (xs ys : List Int) {B : Int} (hx : natsB B xs) (hy : natsB B ys) (hB : 0 ≤ B ∧ B ≤ 1099511627776) (l : Lv) : l.ok → ∀ (d : Int), rightB xs.length ys.length l d = true → d ≤ 1000 → ∀ (H : List AO),
    F ref02_Value [.agg l.cs, .sl (i64s xs), .sl (i64s ys)] H = some (.ret (.int .i64 (valL xs ys l)), H) := by
  induction l using Lv.ind with
  | h k n ks ih =>
  intro hl d hr hd H
  obtain ⟨hd1, hk, hn, q5, q6, q0, hks⟩ := rightB_inv hr
  have hv := valLs_range hx hy hB.1 ks (d - 1) hks
  rw [f_ref02_Value, valL]
  by_cases e2 : k = 2
  · obtain ⟨a, rfl⟩ := kids_one hk e2
    have h1 := ih a (by simp) (hl.all a (by simp)) (d - 1) (rightsB_at hks (by simp)) (by omega)
    have g1 := hv (valL xs ys a) (by simp [valLs])
    simp only [↓reduceIte, go_sem, Lv.cs, e2, h1, valLs, List.getD_cons_zero, wrap64 (n := 1 + valL xs ys a) (by omega) (by omega)]
  by_cases e3 : k = 3
  · obtain ⟨a, b, rfl⟩ := kids_two hk (.inl e3)
    have h1 := ih a (by simp) (hl.all a (by simp)) (d - 1) (rightsB_at hks (by simp)) (by omega)
    have h2 := ih b (by simp) (hl.all b (by simp)) (d - 1) (rightsB_at hks (by simp)) (by omega)
    simp only [↓reduceIte, go_sem, Lv.cs, e3, h1, h2, valLs, List.getD_cons_zero, List.getD_cons_succ, mxI]
  by_cases e4 : k = 4
  · obtain ⟨a, b, rfl⟩ := kids_two hk (.inr e4)
    have h1 := ih a (by simp) (hl.all a (by simp)) (d - 1) (rightsB_at hks (by simp)) (by omega)
    have h2 := ih b (by simp) (hl.all b (by simp)) (d - 1) (rightsB_at hks (by simp)) (by omega)
    by_cases e0 : valL xs ys b = 0
    · simp only [↓reduceIte, go_sem, Lv.cs, e4, h1, h2, e0, valLs, List.getD_cons_zero, List.getD_cons_succ]
    · simp only [↓reduceIte, go_sem, Lv.cs, e4, h1, h2, e0, valLs, List.getD_cons_zero, List.getD_cons_succ, mxI]
  have hN : (n.toNat : Int) = n := Int.toNat_of_nonneg hn
  by_cases e5 : k = 5
  · have := q5 e5
    obtain ⟨x, hx⟩ : ∃ x, xs[n.toNat]? = some x := ⟨xs[n.toNat], by simp⟩
    simp only [↓reduceIte, go_sem, Lv.cs, e5, hn, hx, List.getD_eq_getElem?_getD, Option.getD_some]
  by_cases e6 : k = 6
  · have := q6 e6
    obtain ⟨x, hx⟩ : ∃ x, ys[n.toNat]? = some x := ⟨ys[n.toNat], by simp⟩
    simp only [↓reduceIte, go_sem, Lv.cs, e6, hn, hx, List.getD_eq_getElem?_getD, Option.getD_some]
  simp only [↓reduceIte, go_sem, Lv.cs, e2, e3, e4, e5, e6]
def natsOk (xs : List Int) : Bool := xs.all fun x => decide (0 ≤ x) && decide (x ≤ 1099511627776)
theorem nats02_ok (xs : List Int) (hlen : xs.length ≤ 140737488355328) (H : List AO) : F ref02_naturals [.sl (i64s xs)] H = some (.ret (.bool (natsOk xs)), H) := by
  have loop : ∀ (suf pre : List Int), xs = pre ++ suf → L_ref02_naturals_0 H H (.sl (i64s xs)) (.int .i64 pre.length) = some (.ret (.bool (natsOk suf)), H) := by
    intro suf
    induction suf with
    | nil =>
      intro pre e
      subst e
      rw [L_ref02_naturals_0, awL_eq]
      simp only [↓reduceIte, go_sem, natsOk, List.all_nil]
    | cons x suf ih =>
      intro pre e
      subst e
      simp at hlen
      have := ih (pre ++ [x]) (by simp)
      simp only [len_app] at this
      rw [L_ref02_naturals_0, awL_eq]
      unfold natsOk at *
      rw [List.all_cons]
      by_cases h1 : x < 0
      · simp only [↓reduceIte, go_sem, h1]
        simp [show ¬ 0 ≤ x by omega]
      · by_cases h2 : 1099511627776 < x
        · simp only [↓reduceIte, go_sem, h1, h2]
          simp [show ¬ x ≤ 1099511627776 by omega]
        · simp only [↓reduceIte, go_sem, h1, h2, nat_wrap (n := pre.length) (by omega), this]
          simp [show 0 ≤ x by omega, show x ≤ 1099511627776 by omega]
  have := loop xs [] rfl
  simp only [List.length_nil, Int.natCast_zero] at this
  rw [f_ref02_naturals]
  simp only [↓reduceIte, go_sem, this]
theorem natsOk_of {xs : List Int} {B : Int} (h : natsB B xs) (hB : B ≤ 1099511627776) : natsOk xs = true := by
  unfold natsOk
  rw [List.all_eq_true]
  intro x hx
  have := h x hx
  simp; omega
theorem eval02_ok (xs ys : List Int) {B : Int} (hx : natsB B xs) (hy : natsB B ys) (hB : 0 ≤ B ∧ B ≤ 1099511627776) (lx : xs.length ≤ 1000) (ly : ys.length ≤ 1000) (l : Lv) (hl : l.ok) (hr : RightB l xs.length ys.length = true) (H : List AO) :
    F ref02_Eval [.agg l.cs, .sl (i64s xs), .sl (i64s ys)] H = some (.ret (.tup [.int .i64 (valL xs ys l), .int .i64 0]), H) := by
  have h1 := Right02_ok l hl xs.length ys.length
  have h2 := nats02_ok xs (by omega)
  have h3 := nats02_ok ys (by omega)
  rw [hr] at h1
  rw [natsOk_of hx hB.2] at h2
  rw [natsOk_of hy hB.2] at h3
  have h4 := val02_ok xs ys hx hy hB l hl 12 (RightB_right hr) (by omega)
  rw [f_ref02_Eval]
  simp only [↓reduceIte, go_sem, h1, h2, h3, h4]
mutual
/-- What a level is, with others put in, is what it is by what these are. -/
theorem val_sub (xs ys : List Int) (ps ms : List Lv) : ∀ l : Lv, valL xs ys (subL ps ms l) = valL ((ps.map (valL xs ys)) ++ xs.drop ps.length) ((ms.map (valL xs ys)) ++ ys.drop ms.length) l
  | .mk k n ks => by
    have ih := val_subs xs ys ps ms ks
    have key : ∀ (qs zs : List Int) (i : Nat), (qs ++ zs.drop qs.length).getD i 0 = if i < qs.length then qs.getD i 0 else zs.getD i 0 := by
      intro qs zs i
      rw [List.getD_eq_getElem?_getD, List.getD_eq_getElem?_getD, List.getD_eq_getElem?_getD]
      by_cases h : i < qs.length
      · rw [if_pos h, List.getElem?_append_left h]
      · rw [if_neg h, List.getElem?_append_right (by omega), List.getElem?_drop]
        congr 2; omega
    have k5 := key (ps.map (valL xs ys)) xs n.toNat
    have k6 := key (ms.map (valL xs ys)) ys n.toNat
    rw [List.length_map] at k5 k6
    rw [subL]
    by_cases e5 : k = 5
    · subst e5
      cases hx : ps[n.toNat]? with
      | some x =>
        have := (List.getElem?_eq_some_iff.1 hx).1
        rw [if_pos this] at k5
        rw [show byL ps ms 5 n = some x by simp [byL, hx]]
        simp [List.getElem?_map, hx] at k5
        simp [valL, k5]
      | none =>
        have := List.getElem?_eq_none_iff.1 hx
        rw [show byL ps ms 5 n = none by simp [byL, hx]]
        simp [valL, show ¬ n.toNat < ps.length by omega] at k5 ⊢
        exact k5.symm
    · by_cases e6 : k = 6
      · subst e6
        cases hx : ms[n.toNat]? with
        | some x =>
          have := (List.getElem?_eq_some_iff.1 hx).1
          rw [if_pos this] at k6
          rw [show byL ps ms 6 n = some x by simp [byL, hx]]
          simp [List.getElem?_map, hx] at k6
          simp [valL, k6]
        | none =>
          have := List.getElem?_eq_none_iff.1 hx
          rw [show byL ps ms 6 n = none by simp [byL, hx]]
          simp [valL, show ¬ n.toNat < ms.length by omega] at k6 ⊢
          exact k6.symm
      · rw [show byL ps ms k n = none by simp [byL, e5, e6]]
        simp only [valL, e5, e6, ih, if_false]
theorem val_subs (xs ys : List Int) (ps ms : List Lv) : ∀ ks : List Lv, valLs xs ys (subLs ps ms ks) = valLs ((ps.map (valL xs ys)) ++ xs.drop ps.length) ((ms.map (valL xs ys)) ++ ys.drop ms.length) ks
  | [] => rfl
  | x :: r => by rw [subLs, valLs, valLs, val_sub xs ys ps ms x, val_subs xs ys ps ms r]
end

def valuesS (L : List Int) (m : Nat) : List Int := (L.take m).map (fun b => b.tmod 9) ++ List.replicate (m - L.length) 0
theorem valuesS_len (L : List Int) (m : Nat) : (valuesS L m).length = m := by simp [valuesS]; omega
theorem valuesS_range {L : List Int} (hL : BytesOk L) (m : Nat) : natsB 8 (valuesS L m) := by
  intro x hx
  rcases List.mem_append.1 hx with h | h
  · obtain ⟨b, hb, rfl⟩ := List.mem_map.1 h
    have := hL b (List.mem_of_mem_take hb)
    rw [Int.tmod_eq_emod_of_nonneg this.1]; omega
  · rw [List.eq_of_mem_replicate h]; omega
theorem set_mid (a : List Int) (x y : Int) (b : List Int) : (i64s (a ++ x :: b)).set a.length [.int .i64 y] = i64s (a ++ y :: b) := by
  rw [i64s_app, i64s_app, List.set_append_right _ _ (by simp [i64s])]; simp [i64s]
@[go_sem] theorem i64s_lt1 (n : Nat) (L : List Int) : (∀ e ∈ i64s L, e.length = 1) = True := eq_true (i64s_all L)
theorem values_ok (L : List Int) (hL : BytesOk L) (hlen : L.length ≤ 140737488355328) (m : Nat) (hm : m ≤ 1000) (H : List AO) : F law02_Values [.sl (u8s L), .int .i64 m] H = some (.ret (.sl (i64s (valuesS L m))), H) := by
  have loop : ∀ (suf pre : List Int) (j : Nat), L = pre ++ suf → pre.length + j = m →
      L_law02_Values_0 H (H ++ [.lst 0 1 [], .lst 0 1 (i64s (pre.map (fun b => b.tmod 9) ++ List.replicate j 0))]) (.sl (u8s L)) (.int .i64 m) (.ol (H.length + 1) 0) (.int .i64 pre.length) = some (.ret (.sl (i64s (valuesS L m))), H) := by
    intro suf
    induction suf with
    | nil =>
      intro pre j e hj
      subst e
      rw [List.append_nil] at *
      rw [L_law02_Values_0, awL_eq]
      have : valuesS pre m = pre.map (fun b => b.tmod 9) ++ List.replicate j 0 := by unfold valuesS; rw [List.take_of_length_le (by omega), show m - pre.length = j by omega]
      simp only [↓reduceIte, go_sem, this]
    | cons x suf ih =>
      intro pre j e hj
      subst e
      simp at hlen
      have hx := hL x (by simp)
      rw [L_law02_Values_0, awL_eq]
      cases j with
      | zero =>
        have hmp : m = pre.length := by omega
        have : valuesS (pre ++ x :: suf) m = pre.map fun b => b.tmod 9 := by unfold valuesS; rw [hmp, List.take_left' rfl]; simp
        subst hmp
        simp only [↓reduceIte, go_sem, this, List.replicate_zero]
      | succ j =>
        have := ih (pre ++ [x]) j (by simp) (by simp; omega)
        simp only [len_app, List.map_append, List.map_cons, List.map_nil, List.append_assoc, List.cons_append, List.nil_append] at this
        have hlt : (pre.length : Int) < (m : Int) := by omega
        have hs := set_mid (pre.map fun b => b.tmod 9) 0 (x.tmod 9) (List.replicate j 0)
        rw [List.length_map] at hs
        have hg : (i64s (pre.map (fun b => b.tmod 9) ++ 0 :: List.replicate j 0))[pre.length]? = some [.int .i64 0] := by
          rw [i64s_get, List.getElem?_append_right (by simp)]; simp
        have hl2 : pre.length < (pre.map (fun b : Int => b.tmod 9) ++ 0 :: List.replicate j 0).length := by simp
        simp only [↓reduceIte, go_sem, hlt, hs, hg, hl2, wrap64 (n := x) (by omega) (by omega), nat_wrap (n := pre.length) (by omega), this]
  have h0 := loop L [] m rfl (by simp)
  simp only [List.length_nil, Int.natCast_zero, List.map_nil, List.nil_append] at h0
  rw [f_law02_Values]
  have e : List.replicate m [AV.int .i64 0] = i64s (List.replicate m 0) := by simp [i64s]
  simp only [↓reduceIte, go_sem, e, h0, show (m : Int) ≤ 1073741824 by omega]
theorem LsubIs_row (L : List Int) (hL : L.length ≤ 140737488355328 ∧ BytesOk L) (P : List (List Int)) (hP : BsOk P) (Q : List (List Int)) (hQ : BsOk Q) (V : List Int) (hV : V.length ≤ 140737488355328 ∧ BytesOk V) (H : List AO) :
    F law05_LsubIs [.sl (u8s L), .sl (u8ss P), .sl (u8ss Q), .sl (u8s V)] H = some (.ret (.bool true), H) := by
  have h1 := fun H => made_ok L hL.2 hL.1 5 10 (by omega) (by omega) H
  have h2 := fun H => levels05_ok P hP 5 (by omega) H
  have h3 := fun H => levels05_ok Q hQ 10 (by omega) H
  have h4 := fun H => values_ok V hV.2 hV.1 5 (by omega) H
  have a1 : (madeS L 5 10).ok := levelS_ok _ _ _ _ _
  have r1 : RightB (madeS L 5 10) 5 10 = true := levelS_RightB hL.2 (by omega) (by omega) 5 (by omega) 0
  have op := levels05S_ok P 5
  have oq := levels05S_ok Q 10
  have rp : ∀ x ∈ levels05S P 5, RightB x 5 10 = true := fun x hx => by
    obtain ⟨l, hl, rfl⟩ := List.mem_map.1 hx
    exact levelS_RightB (hP.2 l (List.mem_of_mem_take hl)).2 (by omega) (by omega) 5 (by omega) 0
  have rq : ∀ x ∈ levels05S Q 10, RightB x 5 10 = true := fun x hx => by
    obtain ⟨l, hl, rfl⟩ := List.mem_map.1 hx
    exact levelS_RightB (hQ.2 l (List.mem_of_mem_take hl)).2 (by omega) (by omega) 5 (by omega) 0
  have lp := levels05S_len P 5
  have lq := levels05S_len Q 10
  have lx := valuesS_len V 5
  have nx := valuesS_range hV.2 5
  simp only [Int.cast_ofNat_Int] at h2 h3 h4
  generalize levels05S P 5 = ps at *
  generalize levels05S Q 10 = ms at *
  generalize valuesS V 5 = xs at *
  generalize madeS L 5 10 = a at *
  have h5 := fun H => Sub_ok a ps ms a1 op oq (by omega) (by omega) H
  have e5 : SubS a ps ms = if RightB (subL ps ms a) 5 10 = true then (subL ps ms a, 0) else (zeroL, 2) := by
    have b1 : rightLs ps = true := List.all_eq_true.2 rp
    have b2 : rightLs ms = true := List.all_eq_true.2 rq
    simp [SubS, r1, b1, b2, show ¬ 5 < ps.length by omega, show ¬ 10 < ms.length by omega]
  have hd : List.replicate (Int.toNat 10) [AV.int .i64 0] = i64s (List.replicate 10 0) := rfl
  rw [e5] at h5
  by_cases hb : RightB (subL ps ms a) 5 10 = true
  case neg =>
    rw [if_neg hb] at h5
    simp only [resL, zeroL, Lv.cs, Lv.css] at h5
    rw [f_law05_LsubIs]
    simp only [↓reduceIte, go_sem, awake05_ok, h1, h2, h3, h5]
  rw [if_pos hb] at h5
  have ob := subL_ok op oq a a1
  have vs := val_sub xs (List.replicate 10 0) ps ms a
  generalize subL ps ms a = b at *
  have ny : natsB 8 (List.replicate 10 0) := fun x hx => by rw [List.eq_of_mem_replicate hx]; omega
  have ly : (List.replicate 10 (0 : Int)).length = 10 := by simp
  generalize List.replicate 10 (0 : Int) = ys at *
  have ev := fun (l : Lv) (hl : l.ok) (hr : RightB l 5 10 = true) (H : List AO) => eval02_ok xs ys nx ny (by omega) (by omega) (by omega) l hl (by rw [lx, ly]; exact hr) H
  have vr : ∀ l : Lv, RightB l 5 10 = true → 0 ≤ valL xs ys l ∧ valL xs ys l ≤ 20 := fun l hr => valL_range nx ny (by omega) l 12 (RightB_right hr)
  -- the last part
  have fin : ∀ (s t : List Int), natsB 20 s → natsB 20 t → s.length = 5 → t.length = 10 → valL s t a = valL xs ys b →
      L_law05_LsubIs_1 H (H ++ [.lst 0 1 (i64s s), .lst 0 1 (i64s t)]) (.bool true) (.sl (Lv.css ms)) (.sl (i64s xs)) (.sl (i64s ys)) (.ol H.length 0) (.ol (H.length + 1) 0) (.int .i64 ms.length) a.cs b.cs = some (.ret (.bool true), H) := by
    intro s t ns nt ls lt hv
    have ea := fun H => eval02_ok s t ns nt (by omega) (by omega) (by omega) a a1 (by rw [ls, lt]; exact r1) H
    rw [L_law05_LsubIs_1, awL_eq]
    simp only [↓reduceIte, go_sem, ea, ev b ob hb, hv, decide_true]
  have loop1 : ∀ (suf pre : List Lv) (s : List Int), ms = pre ++ suf → natsB 20 s → s.length = 5 → valL s (ms.map (valL xs ys) ++ ys.drop ms.length) a = valL xs ys b →
      L_law05_LsubIs_1 H (H ++ [.lst 0 1 (i64s s), .lst 0 1 (i64s (pre.map (valL xs ys) ++ ys.drop pre.length))]) (.bool true) (.sl (Lv.css ms)) (.sl (i64s xs)) (.sl (i64s ys)) (.ol H.length 0) (.ol (H.length + 1) 0) (.int .i64 pre.length) a.cs b.cs = some (.ret (.bool true), H) := by
    intro suf
    induction suf with
    | nil =>
      intro pre s e ns ls hv
      subst e
      rw [List.append_nil] at *
      refine fin s _ ns ?_ ls (by simp; omega) hv
      intro z hz
      rcases List.mem_append.1 hz with h | h
      · obtain ⟨l, hl, rfl⟩ := List.mem_map.1 h
        exact vr l (rq l hl)
      · have := ny z (List.mem_of_mem_drop h); omega
    | cons x suf ih =>
      intro pre s e ns ls hv
      subst e
      simp at lq
      have := ih (pre ++ [x]) s (by simp) ns ls hv
      obtain ⟨y0, yr, hyd⟩ : ∃ y0 yr, ys.drop pre.length = y0 :: yr := by
        cases h : ys.drop pre.length with
        | nil => have := congrArg List.length h; simp at this; omega
        | cons y0 yr => exact ⟨y0, yr, rfl⟩
      have hyd2 : ys.drop (pre.length + 1) = yr := by rw [← List.drop_drop, hyd]; rfl
      simp only [len_app, len_snoc, List.map_append, List.map_cons, List.map_nil, List.append_assoc, List.cons_append, List.nil_append, hyd2, Int.natCast_add, Int.natCast_one] at this
      have hs := set_mid (pre.map (valL xs ys)) y0 (valL xs ys x) yr
      rw [List.length_map] at hs
      have hg : (i64s (pre.map (valL xs ys) ++ y0 :: yr))[pre.length]? = some [.int .i64 y0] := by
        rw [i64s_get, List.getElem?_append_right (by simp)]; simp
      have hl2 : pre.length < (pre.map (valL xs ys) ++ y0 :: yr).length := by simp
      have hx := ev x (oq x (by simp)) (rq x (by simp))
      rw [L_law05_LsubIs_1, awL_eq]
      simp only [↓reduceIte, go_sem, hyd, hx, hs, hg, hl2, nat_wrap (n := pre.length) (by omega), this]
  have loop0 : ∀ (suf pre : List Lv), ps = pre ++ suf →
      L_law05_LsubIs_0 H (H ++ [.lst 0 1 (i64s (pre.map (valL xs ys) ++ xs.drop pre.length)), .lst 0 1 (i64s ys)]) (.bool true) (.sl (Lv.css ps)) (.sl (Lv.css ms)) (.sl (i64s xs)) (.sl (i64s ys)) (.ol H.length 0) (.ol (H.length + 1) 0) (.int .i64 pre.length) a.cs b.cs = some (.ret (.bool true), H) := by
    intro suf
    induction suf with
    | nil =>
      intro pre e
      subst e
      rw [List.append_nil] at *
      have l1 := loop1 ms [] (pre.map (valL xs ys) ++ xs.drop pre.length) rfl (by
        intro z hz
        rcases List.mem_append.1 hz with h | h
        · obtain ⟨l, hl, rfl⟩ := List.mem_map.1 h
          exact vr l (rp l hl)
        · have := nx z (List.mem_of_mem_drop h); omega) (by simp; omega) vs.symm
      simp only [List.length_nil, Int.natCast_zero, List.map_nil, List.nil_append, List.drop_zero] at l1
      rw [L_law05_LsubIs_0, awL_eq]
      simp only [↓reduceIte, go_sem, l1]
    | cons x suf ih =>
      intro pre e
      subst e
      simp at lp
      have := ih (pre ++ [x]) (by simp)
      obtain ⟨y0, yr, hyd⟩ : ∃ y0 yr, xs.drop pre.length = y0 :: yr := by
        cases h : xs.drop pre.length with
        | nil => have := congrArg List.length h; simp at this; omega
        | cons y0 yr => exact ⟨y0, yr, rfl⟩
      have hyd2 : xs.drop (pre.length + 1) = yr := by rw [← List.drop_drop, hyd]; rfl
      simp only [len_app, len_snoc, List.map_append, List.map_cons, List.map_nil, List.append_assoc, List.cons_append, List.nil_append, hyd2, Int.natCast_add, Int.natCast_one] at this
      have hs := set_mid (pre.map (valL xs ys)) y0 (valL xs ys x) yr
      rw [List.length_map] at hs
      have hg : (i64s (pre.map (valL xs ys) ++ y0 :: yr))[pre.length]? = some [.int .i64 y0] := by
        rw [i64s_get, List.getElem?_append_right (by simp)]; simp
      have hl2 : pre.length < (pre.map (valL xs ys) ++ y0 :: yr).length := by simp
      have hx := ev x (op x (by simp)) (rp x (by simp))
      rw [L_law05_LsubIs_0, awL_eq]
      simp only [↓reduceIte, go_sem, hyd, hx, hs, hg, hl2, nat_wrap (n := pre.length) (by omega), this]
  have l0 := loop0 ps [] rfl
  simp only [List.length_nil, Int.natCast_zero, List.map_nil, List.nil_append, List.drop_zero] at l0
  have hc1 : ∃ x0 xr, i64s xs = x0 :: xr ∧ xr.length < 1073741824 := by
    cases xs with
    | nil => simp at lx
    | cons x0 xr => exact ⟨_, _, rfl, by simp at lx; simp [lx]⟩
  have hc2 : ∃ y0 yr, i64s ys = y0 :: yr ∧ yr.length < 1073741824 := by
    cases ys with
    | nil => simp at ly
    | cons x0 xr => exact ⟨_, _, rfl, by simp at ly; simp [ly]⟩
  have q1 := i64s_all xs
  have q2 := i64s_all ys
  rw [f_law05_LsubIs]
  simp only [resL] at h5
  obtain ⟨x0, xr, ex, lxr⟩ := hc1
  obtain ⟨y0, yr, ey, lyr⟩ := hc2
  rw [ex] at h4 l0 q1
  rw [ey] at hd l0 q2
  have q3 := q1 x0 (by simp)
  have q4 := q2 y0 (by simp)
  have q5 : ∀ e ∈ xr, e.length = 1 := fun e he => q1 e (by simp [he])
  have q6 : ∀ e ∈ yr, e.length = 1 := fun e he => q2 e (by simp [he])
  simp only [↓reduceIte, go_sem, List.forall_mem_cons, awake05_ok, h1, h2, h3, h4, h5, hd, lxr, lyr, q3, q4, eq_true q5, eq_true q6, and_self, l0]
end Go.Ab
