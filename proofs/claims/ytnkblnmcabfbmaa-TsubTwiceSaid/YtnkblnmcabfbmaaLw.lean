/- Levels: the program's functions. Conditions: none. -/
import Derived.Test.YtnkblnmcabfbmaaMk
set_option linter.unusedVariables false
set_option linter.unusedSimpArgs false
set_option maxRecDepth 100000
set_option maxHeartbeats 2000000
namespace Go.Ab
open Go.RowKit Go.Proofs

theorem app_set {H : List AO} {x y : AO} : (H ++ [x]).set H.length y = H ++ [y] := by simp
def madeS (L : List Int) (p m : Int) : Lv := (levelS L p m 5 0).1
theorem made_ok (L : List Int) (hL : BytesOk L) (hlen : L.length ≤ 140737488355328) (p m : Int) (hp : 0 ≤ p ∧ p ≤ 100) (hm : 0 ≤ m ∧ m ≤ 100) (H : List AO) :
    F law02_Made [.sl (u8s L), .int .i64 p, .int .i64 m] H = some (.ret (.agg (madeS L p m).cs), H) := by
  have h : F law02_Maker_Level [.ptr H.length 0, .int .i64 p, .int .i64 m, .int .i64 5] (H ++ [mkr L 0]) = some (.ret (.agg (levelS L p m 5 0).1.cs), H ++ [mkr L (levelS L p m 5 0).2]) := by
    have := level_ok L hL hlen p m hp hm 4 (by omega) 0 (by decide) H.length (H ++ [mkr L 0]) (by simp)
    rw [app_set, app_set] at this
    exact this
  rw [f_law02_Made]
  have h0 : AO.box [.sl (u8s L), .int .i64 0] = mkr L 0 := rfl
  simp only [↓reduceIte, go_sem, h0, h, madeS]

/-- A function value that tells something of each element. -/
theorem anyF_ok (xs : List (List AV)) (hlen : xs.length ≤ 140737488355328) (hsz : ∀ e ∈ xs, e.length = 3) (f : AV) (p : List AV → Bool) (H : List AO) (hf : ∀ e ∈ xs, cfl T f [.agg e] H = some (.ret (.bool (p e)), H)) :
    F slices_ContainsFunc_Level [.sl xs, f] H = some (.ret (.bool (xs.any p)), H) := by
  have loop : ∀ (suf pre : List (List AV)), xs = pre ++ suf → ∃ r : Int, L_slices_IndexFunc_Level_0 H H (.sl xs) f (.int .i64 xs.length) (.int .i64 pre.length) = some (.ret (.int .i64 r), H) ∧ decide (0 ≤ r) = suf.any p := by
    intro suf
    induction suf with
    | nil =>
      intro pre e
      subst e
      refine ⟨-1, ?_, rfl⟩
      rw [L_slices_IndexFunc_Level_0, awL_eq]
      simp only [↓reduceIte, go_sem]
    | cons x suf ih =>
      intro pre e
      subst e
      obtain ⟨r, h1, h2⟩ := ih (pre ++ [x]) (by simp)
      simp only [len_app] at h1
      have hx := hsz x (by simp)
      have hfx := hf x (by simp)
      simp at hlen
      cases hp : p x with
      | true =>
        refine ⟨pre.length, ?_, by simp [hp]⟩
        rw [L_slices_IndexFunc_Level_0, awL_eq]
        simp only [↓reduceIte, go_sem, hx, rd_all hx, hfx, hp]
      | false =>
        refine ⟨r, ?_, by simp [hp, h2]⟩
        rw [L_slices_IndexFunc_Level_0, awL_eq]
        simp only [↓reduceIte, go_sem, hx, rd_all hx, hfx, hp, nat_wrap (n := pre.length) (by omega), h1]
  obtain ⟨r, h1, h2⟩ := loop xs [] rfl
  simp only [List.length_nil, Int.natCast_zero] at h1
  rw [f_slices_ContainsFunc_Level]
  have : F slices_IndexFunc_Level [.sl xs, f] H = some (.ret (.int .i64 r), H) := by
    rw [f_slices_IndexFunc_Level]
    simp only [↓reduceIte, go_sem, h1]
  simp only [↓reduceIte, go_sem, this, h2]
/-- The same of levels. -/
theorem anyL_ok (ks : List Lv) (hlen : ks.length ≤ 140737488355328) (f : AV) (p : Lv → Bool) (H : List AO) (hf : ∀ x ∈ ks, cfl T f [.agg x.cs] H = some (.ret (.bool (p x)), H)) :
    F slices_ContainsFunc_Level [.sl (Lv.css ks), f] H = some (.ret (.bool (ks.any p)), H) := by
  let q : List AV → Bool := fun e => match cfl T f [.agg e] H with
    | some (.ret (.bool b), _) => b
    | _ => false
  have hq : ∀ x ∈ ks, q x.cs = p x := fun x hx => by simp only [q, hf x hx]
  have := anyF_ok (Lv.css ks) (by rw [css_len]; exact hlen) (fun e he => by rw [Lv.css_eq] at he; obtain ⟨x, _, rfl⟩ := List.mem_map.1 he; exact cs_len x) f q H (fun e he => by
    rw [Lv.css_eq] at he
    obtain ⟨x, hx, rfl⟩ := List.mem_map.1 he
    rw [hf x hx, hq x hx])
  rw [this, Lv.css_eq, List.any_map]
  congr 4
  have : ∀ l : List Lv, (∀ x ∈ l, q x.cs = p x) → l.any (q ∘ Lv.cs) = l.any p := by
    intro l
    induction l with
    | nil => intro _; rfl
    | cons a l ih => intro h; simp [h a (by simp), ih fun x hx => h x (by simp [hx])]
  exact this ks hq

def kindsV : List (AV × AV) := [(.int .i64 1, .agg [.int .i64 0, .fn (.func level_kinds_1) [] []]), (.int .i64 2, .agg [.int .i64 1, .fn (.func level_kinds_2) [] []]), (.int .i64 3, .agg [.int .i64 2, .fn (.func level_kinds_3) [] []]),
  (.int .i64 4, .agg [.int .i64 2, .fn (.func level_kinds_4) [] []]), (.int .i64 5, .agg [.int .i64 0, .fn (.func level_kinds_5) [] []]), (.int .i64 6, .agg [.int .i64 0, .fn (.func level_kinds_6) [] []])]
theorem kinds_ok (H : List AO) : F level_kinds [] H = some (.ret (.fmap kindsV), H) := by
  rw [f_level_kinds]
  simp only [↓reduceIte, go_sem, keysI, findI, kindsV]
theorem namedP_ok (k n : Int) (ks : List Lv) (p m : Int) (H : List AO) : F level_named [.agg [.int .i64 k, .int .i64 n, .sl (Lv.css ks)], .int .i64 p, .int .i64 m] H = some (.ret (.bool (if k = 5 then decide (0 ≤ n) && decide (n < p) else if k = 6 then decide (0 ≤ n) && decide (n < m) else decide (n = 0))), H) := by
  rw [f_level_named]
  simp only [↓reduceIte, go_sem]
  repeat' split
  all_goals (simp_all; try omega)
def kindF (k : Int) : FuncId := if k = 1 then level_kinds_1 else if k = 2 then level_kinds_2 else if k = 3 then level_kinds_3 else if k = 4 then level_kinds_4 else if k = 5 then level_kinds_5 else level_kinds_6
theorem kinds_keys : keysI .i64 kindsV = true := rfl
theorem kinds_find (k : Int) (h : 1 ≤ k ∧ k ≤ 6) : findI k kindsV = some (some (.agg [.int .i64 (kids02 k), .fn (.func (kindF k)) [] []])) := by
  have : k = 1 ∨ k = 2 ∨ k = 3 ∨ k = 4 ∨ k = 5 ∨ k = 6 := by omega
  rcases this with rfl | rfl | rfl | rfl | rfl | rfl <;> rfl
theorem kinds_none (k : Int) (h : ¬ (1 ≤ k ∧ k ≤ 6)) : findI k kindsV = some none := by
  simp only [findI, kindsV]
  repeat' split
  all_goals first | omega | rfl
theorem kids_none (k : Int) (h : ¬ (1 ≤ k ∧ k ≤ 6)) : kids02 k = -1 := by
  unfold kids02; grind

theorem rightP_ok (p m : Int) (l : Lv) : l.ok → ∀ (d : Int), -1000 ≤ d ∧ d ≤ 1000 → ∀ (H : List AO), F level_right [.agg l.cs, .int .i64 p, .int .i64 m, .int .i64 d] H = some (.ret (.bool (rightB p m l d)), H) := by
  induction l using Lv.ind with
  | h k n ks ih =>
  intro hl d hd H
  have hlen := hl.len
  have hc : 0 < d → F slices_ContainsFunc_Level [.sl (Lv.css ks), .fn (.func level_right_1) [] [.ptr H.length 0, .ptr (H.length + 1) 0, .ptr (H.length + 2) 0]] (H ++ [.box [.int .i64 p], .box [.int .i64 m], .box [.int .i64 d]]) = some (.ret (.bool (ks.any fun x => !rightB p m x (d - 1))), H ++ [.box [.int .i64 p], .box [.int .i64 m], .box [.int .i64 d]]) := by
    intro hd0
    refine anyL_ok ks hlen _ _ _ fun x hx => ?_
    simp only [↓reduceIte, go_sem, f_level_right_1, Lv.cs, wrap64 (n := d - 1) (by omega) (by omega), ih x hx (hl.all x hx) (d - 1) (by omega)]
  rw [f_level_right, rightB]
  by_cases hk : 1 ≤ k ∧ k ≤ 6
  · by_cases hd0 : 0 < d
    · by_cases hkl : (ks.length : Int) = kids02 k
      · have e : (ks.any fun x => !rightB p m x (d - 1)) = !rightsB p m ks (d - 1) := by rw [rightsB_all, List.not_all_eq_any_not]
        have e5 : k = 5 ∨ k = 6 → ks = [] := by
          intro h
          apply List.eq_nil_of_length_eq_zero
          rcases h with rfl | rfl <;> (simp [kids02] at hkl; simp [hkl])
        simp only [↓reduceIte, go_sem, Lv.cs, kinds_ok, kinds_keys, kinds_find k hk, namedP_ok, hc hd0, hd0, hkl, e]
        by_cases h5 : k = 5
        · subst h5
          rw [e5 (.inl rfl)]
          simp [rightsB, show ¬ d < 1 by omega]
          grind
        · by_cases h6 : k = 6
          · subst h6
            rw [e5 (.inr rfl)]
            simp [rightsB, show ¬ d < 1 by omega]
            grind
          · simp [h5, h6, show ¬ d < 1 by omega]
            grind
      · simp only [↓reduceIte, go_sem, Lv.cs, kinds_ok, kinds_keys, kinds_find k hk, hd0, hkl]
        simp [hkl]
    · simp only [↓reduceIte, go_sem, Lv.cs, kinds_ok, kinds_keys, kinds_find k hk, hd0]
      simp [show d < 1 by omega]
  · simp only [↓reduceIte, go_sem, Lv.cs, kinds_ok, kinds_keys, kinds_none k hk]
    have : ¬ (ks.length : Int) = kids02 k := by rw [kids_none k hk]; omega
    simp [this]

theorem RightP_ok (l : Lv) (hl : l.ok) (p m : Int) (H : List AO) : F level_Right [.agg l.cs, .int .i64 p, .int .i64 m] H = some (.ret (.bool (RightB l p m)), H) := by
  rw [f_level_Right, RightB]
  simp only [↓reduceIte, go_sem, nodesP_ok l hl 101 (by omega), rightP_ok p m l hl 12 (by omega)]
  grind

/-- Two lists, element by element. -/
theorem eqL_ok (a b : List Lv) (hlen : a.length ≤ 140737488355328) (f : AV) (H : List AO) (hf : ∀ x ∈ a, ∀ y, cfl T f [.agg x.cs, .agg y.cs] H = some (.ret (.bool (lvEq x y)), H)) :
    F slices_EqualFunc_Level [.sl (Lv.css a), .sl (Lv.css b), f] H = some (.ret (.bool (lvsEq a b)), H) := by
  have loop : a.length = b.length → ∀ (suf pre suf' pre' : List Lv), a = pre ++ suf → b = pre' ++ suf' → pre.length = pre'.length →
      L_slices_EqualFunc_Level_0 H H (.sl (Lv.css b)) f (.sl (Lv.css a)) (.int .i64 a.length) (.int .i64 pre.length) = some (.ret (.bool (lvsEq suf suf')), H) := by
    intro hll suf
    induction suf with
    | nil =>
      intro pre suf' pre' e e' he
      subst e
      subst e'
      have : suf' = [] := List.eq_nil_of_length_eq_zero (by simp at hll; omega)
      subst this
      rw [L_slices_EqualFunc_Level_0, awL_eq]
      simp only [↓reduceIte, go_sem, lvsEq]
    | cons x suf ih2 =>
      intro pre suf' pre' e e' he
      subst e
      subst e'
      simp at hlen
      cases suf' with
      | nil => simp at hll; omega
      | cons y suf' =>
      have hy : (pre' ++ y :: suf')[pre.length]? = some y := by rw [he]; simp
      have := ih2 (pre ++ [x]) suf' (pre' ++ [y]) (by simp) (by simp) (by simp [he])
      simp only [len_app] at this
      rw [L_slices_EqualFunc_Level_0, awL_eq, lvsEq]
      simp only [↓reduceIte, go_sem, hy, hf x (by simp) y, nat_wrap (n := pre.length) (by omega), this]
      cases lvEq x y <;> simp
  rw [f_slices_EqualFunc_Level]
  by_cases h3 : a.length = b.length
  · have := loop h3 a [] b [] rfl rfl rfl
    simp only [List.length_nil, Int.natCast_zero] at this
    have h3' : (a.length : Int) = b.length := by omega
    simp only [↓reduceIte, go_sem, h3', not_true_eq_false]
    rw [← h3', this]
  · have h3' : ¬ (a.length : Int) = (b.length : Int) := by omega
    simp only [↓reduceIte, go_sem, h3', lvsEq_len h3]

theorem sameP_ok (a : Lv) : a.ok → ∀ (b : Lv) (H : List AO), F level_Same [.agg a.cs, .agg b.cs] H = some (.ret (.bool (lvEq a b)), H) := by
  induction a using Lv.ind with
  | h k n ks ih =>
  intro hl b H
  obtain ⟨k', n', ks'⟩ := b
  have := eqL_ok ks ks' hl.len (.fn (.func level_Same) [] []) H (fun x hx y => ih x hx (hl.all x hx) y H)
  rw [f_level_Same, lvEq]
  simp only [↓reduceIte, go_sem, Lv.cs, this]
  grind
end Go.Ab
