/- Terms; what the document's functions on them do. Conditions: none. -/
import Derived.Test.YtnkblnmcabfbmaaLw
set_option linter.unusedVariables false
set_option linter.unusedSimpArgs false
set_option maxRecDepth 100000
set_option maxHeartbeats 2000000
namespace Go.Ab
open Go.RowKit Go.Proofs

inductive Te where
  | mk (k n : Int) (ls : List Lv) (ks : List Te)
mutual
def Te.cs : Te → List AV
  | .mk k n ls ks => [.int .i64 k, .int .i64 n, .sl (Lv.css ls), .sl (Te.css ks)]
def Te.css : List Te → List (List AV)
  | [] => []
  | l :: r => l.cs :: Te.css r
end
theorem Te.css_eq : ∀ ks : List Te, Te.css ks = ks.map Te.cs
  | [] => rfl
  | l :: r => by rw [Te.css, Te.css_eq r]; rfl
theorem tm_sz {k n : Int} {ls : List Lv} {ks : List Te} {l : Te} (h : l ∈ ks) : SizeOf.sizeOf l < SizeOf.sizeOf (Te.mk k n ls ks) := by
  have := List.sizeOf_lt_of_mem h
  simp; omega
theorem Te.ind {p : Te → Prop} (h : ∀ k n ls ks, (∀ x ∈ ks, p x) → p (.mk k n ls ks)) : ∀ l, p l
  | .mk k n ls ks => h k n ls ks fun x hx => Te.ind h x
termination_by l => l
decreasing_by exact tm_sz hx
/-- Lists are not too long. -/
inductive Te.ok : Te → Prop
  | mk {k n : Int} {ls : List Lv} {ks : List Te} (hl : ks.length ≤ 140737488355328) (hm : ls.length ≤ 140737488355328) (hx : ∀ x ∈ ls, x.ok) (h : ∀ x ∈ ks, x.ok) : Te.ok (.mk k n ls ks)
section
variable {k n : Int} {ls : List Lv} {ks : List Te} (h : (Te.mk k n ls ks).ok)
include h
theorem Te.ok.len : ks.length ≤ 140737488355328 := by cases h; assumption
theorem Te.ok.len2 : ls.length ≤ 140737488355328 := by cases h; assumption
theorem Te.ok.all : ∀ x ∈ ks, x.ok := by cases h; assumption
theorem Te.ok.all2 : ∀ x ∈ ls, x.ok := by cases h; assumption
end
@[go_sem] theorem tcss_get (ks : List Te) (j : Nat) : (Te.css ks)[j]? = ks[j]?.map Te.cs := by rw [Te.css_eq]; simp
@[go_sem] theorem tcss_len (ks : List Te) : (Te.css ks).length = ks.length := by rw [Te.css_eq]; simp
theorem tcss_app (a b : List Te) : Te.css (a ++ b) = Te.css a ++ Te.css b := by simp [Te.css_eq]
@[go_sem] theorem tcss_snoc (a : List Te) (x : Te) : Te.css a ++ [x.cs] = Te.css (a ++ [x]) := by rw [tcss_app]; rfl
@[go_sem] theorem tcs_len (l : Te) : l.cs.length = 4 := by cases l; rfl
@[go_sem] theorem rd_tcs (l : Te) : rd 4 true l.cs = some (.v (.agg l.cs)) := rd_all (tcs_len l)
@[go_sem] theorem tcs_one (l : Te) : l.cs.all AV.one = true := by cases l; rfl
@[go_sem] theorem over_tcs (x y z u : AV) (l : Te) : over [x, y, z, u] 0 l.cs = l.cs := by cases l; rfl
@[go_sem] theorem frz_tcs (n : Nat) (l : Te) (h : List AO) : frzC n l.cs h = (l.cs, h) := by cases l; rfl
theorem tcs_lt (n : Nat) (l : Te) : ∀ a ∈ l.cs, Lt n a := by
  induction l using Te.ind with
  | h k m ls ks ih =>
    intro a ha
    simp [Te.cs] at ha
    rcases ha with rfl | rfl | rfl | rfl
    · exact .int _ _
    · exact .int _ _
    · exact .sl (of_eq_true (lt_css n ls))
    · refine .sl fun a ha => ?_
      obtain ⟨e, he, h2⟩ := List.mem_flatten.1 ha
      rw [Te.css_eq] at he
      obtain ⟨x, hx, rfl⟩ := List.mem_map.1 he
      exact ih x hx a h2
@[go_sem] theorem lt_tcs (n : Nat) (l : Te) : (∀ a ∈ l.cs, Lt n a) = True := eq_true (tcs_lt n l)
@[go_sem] theorem lt_tcss (n : Nat) (ks : List Te) : (∀ a ∈ (Te.css ks).flatten, Lt n a) = True := by
  refine eq_true fun a ha => ?_
  obtain ⟨e, he, h2⟩ := List.mem_flatten.1 ha
  rw [Te.css_eq] at he
  obtain ⟨x, hx, rfl⟩ := List.mem_map.1 he
  exact tcs_lt n x a h2

/-! Parts -/
mutual
def parts : Te → Int → Int
  | .mk _ _ _ ks, most => partsL ks most 1
def partsL : List Te → Int → Int → Int
  | [], _, n => n
  | l :: r, most, n => if n < most then partsL r most (n + parts l (most - n)) else n
end
theorem partsL_le : ∀ (ks : List Te) (most n : Int), n ≤ partsL ks most n
  | [], _, n => by rw [partsL]; omega
  | .mk a b u l :: r, most, n => by
    rw [partsL]
    split
    · have h1 := partsL_le l (most - n) 1
      have h2 := partsL_le r most (n + parts (.mk a b u l) (most - n))
      rw [parts] at h2 ⊢
      omega
    · omega
theorem partsL_up : ∀ (ks : List Te) (most n : Int), partsL ks most n ≤ max n most
  | [], _, n => by rw [partsL]; omega
  | .mk a b u l :: r, most, n => by
    rw [partsL]
    split
    · have h1 := partsL_up l (most - n) 1
      have h2 := partsL_up r most (n + parts (.mk a b u l) (most - n))
      rw [parts] at h2 ⊢
      omega
    · omega
theorem parts_ge (l : Te) (most : Int) : 1 ≤ parts l most := by cases l; rw [parts]; exact partsL_le _ _ _
theorem parts_le (l : Te) (most : Int) : parts l most ≤ max 1 most := by cases l; rw [parts]; exact partsL_up _ _ _
theorem partsL_stop {ks : List Te} {most n : Int} (h : ¬ n < most) : partsL ks most n = n := by
  cases ks with
  | nil => rfl
  | cons l r => rw [partsL, if_neg h]
theorem parts13_ok (l : Te) : l.ok → ∀ (most : Int), -1000000 ≤ most ∧ most ≤ 1000000 → ∀ H, F ref13_Parts [.agg l.cs, .int .i64 most] H = some (.ret (.int .i64 (parts l most)), H) := by
  induction l using Te.ind with
  | h k n ls ks ih =>
  intro hl most hm H
  have hlen := hl.len
  have loop : ∀ (suf pre : List Te) (m : Int), ks = pre ++ suf → 1 ≤ m ∧ m ≤ 1000000 →
      L_ref13_Parts_0 H H (.int .i64 most) (.int .i64 m) (.int .i64 pre.length) [.int .i64 k, .int .i64 n, .sl (Lv.css ls), .sl (Te.css ks)] = some (.ret (.int .i64 (partsL suf most m)), H) := by
    intro suf
    induction suf with
    | nil =>
      intro pre m e hm
      subst e
      rw [L_ref13_Parts_0, awL_eq]
      simp only [↓reduceIte, go_sem, partsL]
    | cons x suf ih2 =>
      intro pre m e hm
      subst e
      simp at hlen
      rw [L_ref13_Parts_0, awL_eq, partsL]
      by_cases hn : m < most
      · have hge := parts_ge x (most - m)
        have hle := parts_le x (most - m)
        have := ih2 (pre ++ [x]) (m + parts x (most - m)) (by simp) (by omega)
        simp only [len_app] at this
        simp only [↓reduceIte, go_sem, hn, wrap64 (n := most - m) (by omega) (by omega), wrap64 (n := m + parts x (most - m)) (by omega) (by omega), ih x (by simp) (hl.all x (by simp)) (most - m) (by omega) H, nat_wrap (n := pre.length) (by omega), this]
      · simp only [↓reduceIte, go_sem, hn]
  rw [f_ref13_Parts]
  simp only [↓reduceIte, go_sem, Te.cs]
  exact loop ks [] 1 rfl (by omega)
theorem partsP_ok (l : Te) : l.ok → ∀ (most : Int), -1000000 ≤ most ∧ most ≤ 1000000 → ∀ H, F term_parts [.agg l.cs, .int .i64 most] H = some (.ret (.int .i64 (parts l most)), H) := by
  induction l using Te.ind with
  | h k n ls ks ih =>
  intro hl most hm H
  have hlen := hl.len
  have loop : ∀ (suf pre : List Te) (m : Int), ks = pre ++ suf → 1 ≤ m ∧ m ≤ 1000000 →
      L_term_parts_0 H H (.int .i64 most) (.int .i64 m) (.sl (Te.css ks)) (.int .i64 ks.length) (.int .i64 pre.length) = some (.ret (.int .i64 (partsL suf most m)), H) := by
    intro suf
    induction suf with
    | nil =>
      intro pre m e hm
      subst e
      rw [L_term_parts_0, awL_eq]
      simp only [↓reduceIte, go_sem, partsL]
    | cons x suf ih2 =>
      intro pre m e hm
      subst e
      simp at hlen
      rw [L_term_parts_0, awL_eq, partsL]
      by_cases hn : m < most
      · have hge := parts_ge x (most - m)
        have hle := parts_le x (most - m)
        have := ih2 (pre ++ [x]) (m + parts x (most - m)) (by simp) (by omega)
        simp only [len_app] at this
        simp only [↓reduceIte, go_sem, hn, wrap64 (n := most - m) (by omega) (by omega), wrap64 (n := m + parts x (most - m)) (by omega) (by omega), ih x (by simp) (hl.all x (by simp)) (most - m) (by omega) H, nat_wrap (n := pre.length) (by omega), this]
      · have := ih2 (pre ++ [x]) m (by simp) (by omega)
        simp only [len_app] at this
        simp only [↓reduceIte, go_sem, hn, nat_wrap (n := pre.length) (by omega), this, partsL_stop hn]
  rw [f_term_parts]
  simp only [↓reduceIte, go_sem, Te.cs]
  exact loop ks [] 1 rfl (by omega)

def kids13 (k : Int) : Int := if k = 1 ∨ k = 2 ∨ k = 3 then 0 else if k = 4 ∨ k = 5 ∨ k = 6 then 2 else if k = 7 then 3 else -1
theorem kids13_ok (k : Int) (H : List AO) : F ref13_kids [.int .i64 k] H = some (.ret (.int .i64 (kids13 k)), H) := by
  rw [f_ref13_kids]
  simp only [↓reduceIte, go_sem]
  unfold kids13
  grind
def binds (k i : Int) : Int := if (k = 5 ∨ k = 6) ∧ i = 1 ∨ k = 7 ∧ i = 2 then 1 else 0
theorem binds_range (k i : Int) : 0 ≤ binds k i ∧ binds k i ≤ 1 := by unfold binds; split <;> omega
theorem binds13_ok (k i : Int) (H : List AO) : F ref13_binds [.int .i64 k, .int .i64 i] H = some (.ret (.int .i64 (binds k i)), H) := by
  rw [f_ref13_binds]
  simp only [↓reduceIte, go_sem]
  unfold binds
  grind

/-! May a term be? -/
def namedB (k n : Int) (ls : List Lv) (v : Int) : Bool :=
  if k = 1 then decide (0 ≤ n) && decide (n < v) && decide (ls.length = 0)
  else if k = 2 then decide (n = 0) && decide (ls.length = 1)
  else if k = 3 then decide (0 ≤ n) && decide (n < 20) && decide (ls.length ≤ 5)
  else decide (n = 0) && decide (ls.length = 0)
theorem named13_ok (k n : Int) (ls : List Lv) (ks : List Te) (hl : ls.length ≤ 140737488355328) (ha : ∀ x ∈ ls, x.ok) (v p m : Int) (H : List AO) :
    F ref13_named [.agg [.int .i64 k, .int .i64 n, .sl (Lv.css ls), .sl (Te.css ks)], .int .i64 v, .int .i64 p, .int .i64 m] H = some (.ret (.bool ((ls.all fun x => RightB x p m) && namedB k n ls v)), H) := by
  have loop : ∀ (suf pre : List Lv), ls = pre ++ suf →
      L_ref13_named_0 H H (.int .i64 v) (.int .i64 p) (.int .i64 m) (.int .i64 pre.length) [.int .i64 k, .int .i64 n, .sl (Lv.css ls), .sl (Te.css ks)] = some (.ret (.bool ((suf.all fun x => RightB x p m) && namedB k n ls v)), H) := by
    intro suf
    induction suf with
    | nil =>
      intro pre e
      subst e
      rw [L_ref13_named_0, awL_eq]
      simp only [↓reduceIte, go_sem, List.all_nil, Bool.true_and, namedB]
      have e0 : ∀ z : Int, 0 ≤ z → ((pre.length : Int) = z ↔ pre.length = z.toNat) := by intro z hz; omega
      repeat' split
      all_goals (simp_all; try omega)
    | cons x suf ih2 =>
      intro pre e
      subst e
      simp at hl
      have := ih2 (pre ++ [x]) (by simp)
      simp only [len_app] at this
      rw [L_ref13_named_0, awL_eq]
      simp only [↓reduceIte, go_sem, Right02_ok x (ha x (by simp)), nat_wrap (n := pre.length) (by omega), this, List.all_cons]
      cases RightB x p m <;> simp
  rw [f_ref13_named]
  simp only [↓reduceIte, go_sem]
  exact loop ls [] rfl
end Go.Ab
