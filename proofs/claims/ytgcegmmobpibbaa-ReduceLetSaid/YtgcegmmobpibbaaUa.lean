/- Declarations that may be: both sides. Conditions: none. -/
import Derived.Test.YtgcegmmobpibbaaSc
set_option linter.unusedVariables false
set_option linter.unusedSimpArgs false
set_option maxRecDepth 100000
set_option maxHeartbeats 2000000
namespace Go.Ab
open Go.RowKit Go.Proofs

/-- A constraint. -/
inductive Co | mk (a b : Lv)
def Co.a : Co → Lv | .mk a _ => a
def Co.b : Co → Lv | .mk _ b => b
def Co.cs (c : Co) : List AV := c.a.cs ++ c.b.cs
def Co.css (l : List Co) : List (List AV) := l.map Co.cs
def Co.ok (c : Co) : Prop := c.a.ok ∧ c.b.ok
/-- A declaration. -/
inductive De | mk (p : Int) (cons : List Co) (type : Te) (has : Bool) (value : Te)
def De.p : De → Int | .mk p _ _ _ _ => p
def De.cons : De → List Co | .mk _ c _ _ _ => c
def De.type : De → Te | .mk _ _ t _ _ => t
def De.has : De → Bool | .mk _ _ _ h _ => h
def De.value : De → Te | .mk _ _ _ _ v => v
def De.cs (d : De) : List AV := [.int .i64 d.p, .sl (Co.css d.cons)] ++ d.type.cs ++ [.bool d.has] ++ d.value.cs
def De.css (l : List De) : List (List AV) := l.map De.cs
def De.ok (d : De) : Prop := d.cons.length ≤ 140737488355328 ∧ (∀ c ∈ d.cons, c.ok) ∧ d.type.ok ∧ d.value.ok
@[go_sem] theorem cocs_len (c : Co) : c.cs.length = 6 := by rcases c with ⟨⟨k, n, ks⟩, ⟨k2, n2, ks2⟩⟩; rfl
@[go_sem] theorem cocs_rd (c : Co) : rd 6 true c.cs = some (.v (.agg c.cs)) := rd_all (cocs_len c)
@[go_sem] theorem cocs_rd0 (c : Co) : rd 3 true c.cs = some (.v (.agg c.a.cs)) := by rcases c with ⟨⟨k, n, ks⟩, ⟨k2, n2, ks2⟩⟩; rfl
@[go_sem] theorem cocs_rd3 (c : Co) : rd 3 true (List.drop 3 c.cs) = some (.v (.agg c.b.cs)) := by rcases c with ⟨⟨k, n, ks⟩, ⟨k2, n2, ks2⟩⟩; rfl
@[go_sem] theorem cocss_len (l : List Co) : (Co.css l).length = l.length := by simp [Co.css]
@[go_sem] theorem cocss_get (l : List Co) (j : Nat) : (Co.css l)[j]? = l[j]?.map Co.cs := by simp [Co.css]
@[go_sem] theorem decs_len (d : De) : d.cs.length = 11 := by rcases d with ⟨p, c, ⟨k, n, ls, ks⟩, h, ⟨k2, n2, ls2, ks2⟩⟩; rfl
@[go_sem] theorem decs_rd (d : De) : rd 11 true d.cs = some (.v (.agg d.cs)) := rd_all (decs_len d)
@[go_sem] theorem decs_rd0 (d : De) : rd 1 false d.cs = some (.v (.int .i64 d.p)) := by rcases d with ⟨p, c, ⟨k, n, ls, ks⟩, h, ⟨k2, n2, ls2, ks2⟩⟩; rfl
@[go_sem] theorem decs_rd1 (d : De) : rd 1 false (List.drop 1 d.cs) = some (.v (.sl (Co.css d.cons))) := by rcases d with ⟨p, c, ⟨k, n, ls, ks⟩, h, ⟨k2, n2, ls2, ks2⟩⟩; rfl
@[go_sem] theorem decs_rd2 (d : De) : rd 4 true (List.drop 2 d.cs) = some (.v (.agg d.type.cs)) := by rcases d with ⟨p, c, ⟨k, n, ls, ks⟩, h, ⟨k2, n2, ls2, ks2⟩⟩; rfl
@[go_sem] theorem decs_rd6 (d : De) : rd 1 false (List.drop 6 d.cs) = some (.v (.bool d.has)) := by rcases d with ⟨p, c, ⟨k, n, ls, ks⟩, h, ⟨k2, n2, ls2, ks2⟩⟩; rfl
@[go_sem] theorem decs_rd7 (d : De) : rd 4 true (List.drop 7 d.cs) = some (.v (.agg d.value.cs)) := by rcases d with ⟨p, c, ⟨k, n, ls, ks⟩, h, ⟨k2, n2, ls2, ks2⟩⟩; rfl
@[go_sem] theorem over_decs (a b c d e f g h i j k : AV) (x : De) : over [a, b, c, d, e, f, g, h, i, j, k] 0 x.cs = x.cs := by rcases x with ⟨p, c, ⟨k, n, ls, ks⟩, h, ⟨k2, n2, ls2, ks2⟩⟩; rfl
@[go_sem] theorem decss_len (l : List De) : (De.css l).length = l.length := by simp [De.css]
@[go_sem] theorem decss_get (l : List De) (j : Nat) : (De.css l)[j]? = l[j]?.map De.cs := by simp [De.css]
@[go_sem] theorem decs_one (d : De) : d.cs.all AV.one = true := by rcases d with ⟨p, c, ⟨k, n, ls, ks⟩, h, ⟨k2, n2, ls2, ks2⟩⟩; rfl
@[go_sem] theorem cocs_one (c : Co) : c.cs.all AV.one = true := by rcases c with ⟨⟨k, n, ks⟩, ⟨k2, n2, ks2⟩⟩; rfl

mutual
theorem subs_parts : ∀ (t : Te) (m : Int), parts t m < m → ((subs t).length : Int) ≤ parts t m
  | .mk k n ls ks, m, h => by
    rw [parts] at h ⊢
    rw [subs, List.length_cons]
    have := subss_parts ks m 1 h
    omega
theorem subss_parts : ∀ (ks : List Te) (m n : Int), partsL ks m n < m → n + ((subss ks).length : Int) ≤ partsL ks m n
  | [], m, n, h => by rw [partsL, subss]; simp
  | x :: r, m, n, h => by
    rw [partsL] at h ⊢
    have hn : n < m := by
      rcases Int.lt_or_le n m with h1 | h1
      · exact h1
      · rw [if_neg (by omega)] at h
        have := partsL_le r m n
        omega
    rw [if_pos hn] at h ⊢
    have h1 := partsL_le r m (n + parts x (m - n))
    have h2 := subs_parts x (m - n) (by omega)
    have h3 := subss_parts r m (n + parts x (m - n)) h
    rw [subss, List.length_append]
    omega
end
theorem right_subs {t : Te} {v p m : Int} (h : RightT t v p m = true) : (subs t).length ≤ 1073741824 := by
  have : parts t 601 ≤ 600 := by unfold RightT at h; simp at h; exact h.1.2
  have := subs_parts t 601 (by omega)
  omega

theorem anyFC_ok (xs : List (List AV)) (hlen : xs.length ≤ 140737488355328) (hsz : ∀ e ∈ xs, e.length = 6) (f : AV) (p : List AV → Bool) (H : List AO) (hf : ∀ e ∈ xs, cfl T f [.agg e] H = some (.ret (.bool (p e)), H)) :
    F slices_ContainsFunc_Con [.sl xs, f] H = some (.ret (.bool (xs.any p)), H) := by
  have loop : ∀ (suf pre : List (List AV)), xs = pre ++ suf → ∃ r : Int, L_slices_IndexFunc_Con_0 H H (.sl xs) f (.int .i64 xs.length) (.int .i64 pre.length) = some (.ret (.int .i64 r), H) ∧ decide (0 ≤ r) = suf.any p := by
    intro suf
    induction suf with
    | nil =>
      intro pre e
      subst e
      refine ⟨-1, ?_, rfl⟩
      rw [L_slices_IndexFunc_Con_0, awL_eq]
      simp only [↓reduceIte, go_sem]
    | cons x suf ih =>
      intro pre e
      subst e
      obtain ⟨r, h1, h2⟩ := ih (pre ++ [x]) (by simp)
      simp only [len_app] at h1
      have hx := hsz x (by simp)
      have hfx := hf x (by simp)
      simp at hlen
      cases hp : p x with
      | true =>
        refine ⟨pre.length, ?_, by simp [hp]⟩
        rw [L_slices_IndexFunc_Con_0, awL_eq]
        simp only [↓reduceIte, go_sem, hx, rd_all hx, hfx, hp]
      | false =>
        refine ⟨r, ?_, by simp [hp, h2]⟩
        rw [L_slices_IndexFunc_Con_0, awL_eq]
        simp only [↓reduceIte, go_sem, hx, rd_all hx, hfx, hp, nat_wrap (n := pre.length) (by omega), h1]
  obtain ⟨r, h1, h2⟩ := loop xs [] rfl
  simp only [List.length_nil, Int.natCast_zero] at h1
  rw [f_slices_ContainsFunc_Con]
  have : F slices_IndexFunc_Con [.sl xs, f] H = some (.ret (.int .i64 r), H) := by
    rw [f_slices_IndexFunc_Con]
    simp only [↓reduceIte, go_sem, h1]
  simp only [↓reduceIte, go_sem, this, h2]
theorem anyFI_ok (xs : List Int) (hlen : xs.length ≤ 140737488355328) (f : AV) (p : Int → Bool) (H : List AO) (hf : ∀ e ∈ xs, cfl T f [.int .i64 e] H = some (.ret (.bool (p e)), H)) :
    F slices_ContainsFunc_int [.sl (i64s xs), f] H = some (.ret (.bool (xs.any p)), H) := by
  have loop : ∀ (suf pre : List Int), xs = pre ++ suf → ∃ r : Int, L_slices_IndexFunc_int_0 H H (.sl (i64s xs)) f (.int .i64 xs.length) (.int .i64 pre.length) = some (.ret (.int .i64 r), H) ∧ decide (0 ≤ r) = suf.any p := by
    intro suf
    induction suf with
    | nil =>
      intro pre e
      subst e
      refine ⟨-1, ?_, rfl⟩
      rw [L_slices_IndexFunc_int_0, awL_eq]
      simp only [↓reduceIte, go_sem]
    | cons x suf ih =>
      intro pre e
      subst e
      obtain ⟨r, h1, h2⟩ := ih (pre ++ [x]) (by simp)
      simp only [len_app] at h1
      have hfx := hf x (by simp)
      simp at hlen
      cases hp : p x with
      | true =>
        refine ⟨pre.length, ?_, by simp [hp]⟩
        rw [L_slices_IndexFunc_int_0, awL_eq]
        simp only [↓reduceIte, go_sem, hfx, hp]
      | false =>
        refine ⟨r, ?_, by simp [hp, h2]⟩
        rw [L_slices_IndexFunc_int_0, awL_eq]
        simp only [↓reduceIte, go_sem, hfx, hp, nat_wrap (n := pre.length) (by omega), h1]
  obtain ⟨r, h1, h2⟩ := loop xs [] rfl
  simp only [List.length_nil, Int.natCast_zero] at h1
  rw [f_slices_ContainsFunc_int]
  have : F slices_IndexFunc_int [.sl (i64s xs), f] H = some (.ret (.int .i64 r), H) := by
    rw [f_slices_IndexFunc_int]
    simp only [↓reduceIte, go_sem, h1]
  simp only [↓reduceIte, go_sem, this, h2]

def rightC (p : Int) (c : Co) : Bool := RightB c.a p 0 && RightB c.b p 0
def RightCs (l : List Co) (p : Int) : Bool := decide (0 ≤ p) && decide (p ≤ 5) && decide (l.length ≤ 8) && l.all (rightC p)
def mayT (t : Te) (p a : Int) : Bool := RightT t 0 p 0 && (constL t).all fun n => decide (n < a)
def declB (d : De) (a : Int) : Bool := RightCs d.cons d.p && mayT d.type d.p a && (if d.has = true then mayT d.value d.p a else teEq d.value zeroT)
def declsB : List De → Int → Bool
  | [], _ => true
  | d :: r, a => declB d a && declsB r (a + 1)
def RightD (env : List De) : Bool := declsB env 0 && decide (env.length ≤ 20)
theorem may_ok (t : Te) (ht : t.ok) (p a : Int) (H : List AO) : F reduce_may [.agg t.cs, .int .i64 p, .int .i64 a] H = some (.ret (.bool (mayT t p a)), H) := by
  have h1 := fun H => RightTP_ok t ht 0 p 0 H
  rw [f_reduce_may, mayT]
  by_cases h : RightT t 0 p 0 = true
  · have h2 := fun H => Consts_ok t ht (right_subs h) H
    have hl := onceL_len (consN (subs t)) []
    have hl2 := consN_len (subs t)
    have hl3 := right_subs h
    have h3 := anyFI_ok (constL t) (by unfold constL; simp at hl; omega) (.fn (.func reduce_may_1) [] [.ptr H.length 0]) (fun n => decide (a ≤ n)) (H ++ [.box [.int .i64 a]]) (fun n hn => by
      simp only [cfl_f1, List.cons_append, List.nil_append]
      show F reduce_may_1 _ _ = _
      rw [f_reduce_may_1]
      simp only [↓reduceIte, go_sem])
    have e : (!(constL t).any fun n => decide (a ≤ n)) = (constL t).all fun n => decide (n < a) := by
      rw [List.not_any_eq_all_not]; congr 1; funext n
      rw [Bool.eq_iff_iff]; simp
    simp only [↓reduceIte, go_sem, h1, h, h2, h3, e]
  · simp only [Bool.not_eq_true] at h
    simp only [↓reduceIte, go_sem, h1, h]
theorem anyCo_ok (ks : List Co) (hlen : ks.length ≤ 140737488355328) (f : AV) (p : Co → Bool) (H : List AO) (hf : ∀ x ∈ ks, cfl T f [.agg x.cs] H = some (.ret (.bool (p x)), H)) :
    F slices_ContainsFunc_Con [.sl (Co.css ks), f] H = some (.ret (.bool (ks.any p)), H) := by
  let q : List AV → Bool := fun e => match cfl T f [.agg e] H with
    | some (.ret (.bool b), _) => b
    | _ => false
  have hq : ∀ x ∈ ks, q x.cs = p x := fun x hx => by simp only [q, hf x hx]
  have := anyFC_ok (Co.css ks) (by rw [cocss_len]; exact hlen) (fun e he => by obtain ⟨x, _, rfl⟩ := List.mem_map.1 he; exact cocs_len x) f q H (fun e he => by
    obtain ⟨x, hx, rfl⟩ := List.mem_map.1 he
    rw [hf x hx, hq x hx])
  rw [this, Co.css, List.any_map]
  congr 4
  have : ∀ l : List Co, (∀ x ∈ l, q x.cs = p x) → l.any (q ∘ Co.cs) = l.any p := by
    intro l
    induction l with
    | nil => intro _; rfl
    | cons a l ih => intro h; simp [h a (by simp), ih fun x hx => h x (by simp [hx])]
  exact this ks hq
theorem consP_ok (l : List Co) (hlen : l.length ≤ 140737488355328) (hl : ∀ c ∈ l, c.ok) (p : Int) (H : List AO) : F under_Right [.sl (Co.css l), .int .i64 p] H = some (.ret (.bool (RightCs l p)), H) := by
  have h3 := anyCo_ok l hlen (.fn (.func under_Right_1) [] [.ptr H.length 0]) (fun c => !rightC p c) (H ++ [.box [.int .i64 p]]) (fun x hx => by
    obtain ⟨ha, hb⟩ := hl x hx
    have r1 := fun H => RightP_ok x.a ha p 0 H
    have r2 := fun H => RightP_ok x.b hb p 0 H
    simp only [cfl_f1, List.cons_append, List.nil_append]
    show F under_Right_1 _ _ = _
    rw [f_under_Right_1]
    unfold rightC
    rcases x with ⟨⟨k, n, ks⟩, ⟨k2, n2, ks2⟩⟩
    simp only [Co.a, Co.b, Lv.cs] at r1 r2
    cases h1 : RightB (.mk k n ks) p 0 <;> cases h2 : RightB (.mk k2 n2 ks2) p 0 <;> simp only [h1, h2] at r1 r2 <;>
      simp only [↓reduceIte, go_sem, Co.cs, Co.a, Co.b, Lv.cs, r1, r2, h1, h2, Bool.and_self, Bool.and_false, Bool.false_and, Bool.and_true])
  rw [← List.not_all_eq_any_not] at h3
  rw [f_under_Right, RightCs]
  simp only [↓reduceIte, go_sem, h3]
  cases h : l.all (rightC p)
  all_goals (simp [h]; try grind)
def okDs (env : List De) : Prop := env.length ≤ 140737488355328 ∧ ∀ d ∈ env, d.ok
theorem RightDP_ok (env : List De) (he : okDs env) (H : List AO) : F reduce_Right [.sl (De.css env)] H = some (.ret (.bool (RightD env)), H) := by
  obtain ⟨hlen, hd⟩ := he
  have loop : ∀ (suf pre : List De), env = pre ++ suf → L_reduce_Right_0 H H (.sl (De.css env)) (.sl (De.css env)) (.int .i64 env.length) (.int .i64 pre.length) = some (.ret (.bool (declsB suf pre.length && decide (env.length ≤ 20))), H) := by
    intro suf
    induction suf with
    | nil =>
      intro pre e
      rw [List.append_nil] at e
      subst e
      rw [L_reduce_Right_0, awL_eq, declsB]
      simp only [↓reduceIte, go_sem, Bool.true_and]
      congr 4
      rw [Bool.eq_iff_iff]; simp; omega
    | cons x suf ih =>
      intro pre e
      have := ih (pre ++ [x]) (by rw [e]; simp)
      simp only [len_app] at this
      have hg : env[pre.length]? = some x := by rw [e]; simp
      have hp : (pre.length : Int) < (env.length : Int) := by rw [e]; simp; omega
      obtain ⟨q1, q2, q3, q4⟩ := hd x (by rw [e]; simp)
      have r1 := fun H => consP_ok x.cons q1 q2 x.p H
      have r2 := fun H => may_ok x.type q3 x.p pre.length H
      have r3 := fun H => may_ok x.value q4 x.p pre.length H
      have r4 := fun H => sameTP_ok x.value q4 zeroT H
      simp only [zeroT, Te.cs, Lv.css, Te.css] at r4
      rw [L_reduce_Right_0, awL_eq, declsB, declB]
      cases e1 : RightCs x.cons x.p <;> cases e2 : mayT x.type x.p pre.length <;> cases e0 : x.has <;> cases e3 : mayT x.value x.p pre.length <;> cases e4 : teEq x.value (.mk 0 0 [] []) <;> simp only [e1, e2, e3, e4] at r1 r2 r3 r4 <;>
        simp only [↓reduceIte, go_sem, hp, hg, r1, r2, r3, r4, e0, zeroT, e1, e2, e3, e4, nat_wrap (n := pre.length) (by omega), this, Bool.true_and, Bool.false_and, Bool.and_false, Bool.and_true, Bool.false_eq_true]
  have := loop env [] rfl
  simp only [List.length_nil, Int.natCast_zero] at this
  rw [f_reduce_Right, RightD]
  simp only [↓reduceIte, go_sem, this]
end Go.Ab
