/- What a term comes to: the program's machine, how its loop ends. Conditions: none. -/
import Derived.Test.YtgcegmmobpibbaaUd
set_option linter.unusedVariables false
set_option linter.unusedSimpArgs false
set_option maxRecDepth 100000
set_option maxHeartbeats 2000000
namespace Go.Ab
open Go.RowKit Go.Proofs


/-- The program's machine at work: its heap, and what comes of it. -/
def hdH (A X : List AO) (env : List De) (n e : Int) (ver : Nat) (es : List Te) (t : Te) : List AO :=
  A ++ (.box [.sl (De.css env), .int .i64 n, .int .i64 e] :: (X ++ [.lst 0 3 [], .lst 0 4 [], .lst ver 4 (Te.css es), .box (.ptr A.length 0 :: (t.cs ++ [.ol (A.length + (X.length + 3)) ver])), .box [.ptr (A.length + (X.length + 4)) 0]]))
noncomputable def Lh (A X : List AO) (env : List De) (n0 e0 n e : Int) (ver : Nat) (es : List Te) (t : Te) : Option RH :=
  L_reduce_Machine_Head_0 (A ++ (.box [.sl (De.css env), .int .i64 n0, .int .i64 e0] :: X)) (hdH A X env n e ver es t) [] (.ptr A.length 0) (.ptr (A.length + (X.length + 5)) 0) (.fmap stepsV) [.int .i64 0, .int .i64 0, .sl [], .sl []]
theorem HeadP_L (env : List De) (t : Te) (n e : Int) (A X : List AO) : F reduce_Machine_Head [.ptr A.length 0, .agg t.cs] (A ++ (.box [.sl (De.css env), .int .i64 n, .int .i64 e] :: X)) = Lh A X env n e n e 0 [] t := by
  rw [f_reduce_Machine_Head, Lh, hdH]
  rcases t with ⟨k, N, ls, ks⟩
  simp only [↓reduceIte, go_sem, steps_ok, Te.cs, Te.css]
theorem Lh_fin (A X : List AO) (env : List De) (n0 e0 n e : Int) (ver : Nat) (es : List Te) (hes : es.length ≤ 1073741824) (k N : Int) (ls : List Lv) (ks : List Te)
    (hst : e ≠ 0 ∨ e = 0 ∧ (k ≠ 7 ∧ k ≠ 3 ∧ k ≠ 5 ∧ k ≠ 4 ∨ k = 3 ∧ 0 ≤ N ∧ unfD env N ls = none ∨ k = 5 ∧ es = [])) :
    Lh A X env n0 e0 n e ver es (.mk k N ls ks) = some (.ret (.agg (rebuild (.mk k N ls ks) es).cs), A ++ (.box [.sl (De.css env), .int .i64 n, .int .i64 e] :: X)) := by
  have hl : (A ++ (.box [.sl (De.css env), .int .i64 n, .int .i64 e] :: X)).length = A.length + (X.length + 1) := by simp
  have hr := back_seq (head_ys (A ++ (.box [.sl (De.css env), .int .i64 n, .int .i64 e] :: X)) (.ptr A.length 0) (.ptr (by simp)) ver es) (A.length + (X.length + 3)) ver es hes (fun s => by
    rw [show A.length + (X.length + 3) = (A ++ (AO.box [.sl (De.css env), .int .i64 n, .int .i64 e] :: X)).length + 2 by rw [hl]; omega, app_getN]; rfl) (.mk k N ls ks) [] _ (head_fold _ _)
  have he := rf_end (H := A ++ (.box [.sl (De.css env), .int .i64 n, .int .i64 e] :: X)) (DR := headD (.ptr A.length 0) (A ++ (.box [.sl (De.css env), .int .i64 n, .int .i64 e] :: X)).length ver es (rebuild (.mk k N ls ks) es)) (k := 5) rfl (st := .ready) (nn := 60) (t := [(5, .ptr (A.length + (X.length + 5)) 0)]) (ps := [44, 45]) (asg := s_reduce_Machine_Head_0) (body := y_reduce_Machine_Head_0)
  rw [show reb (.mk k N ls ks) (bkr es.reverse) = rebuild (.mk k N ls ks) es from rfl] at hr
  simp only [hl] at hr he
  have hf := fun (o o' : AO) r J (ho : LtO (A.length + (X.length + 1)) o') => fin1F_mid1 (A := A) (X := X) (J := J) (o := o) (o' := o') (r := r) ho
  have hb := fun c1 c2 c3 c4 => back_ok (A.length + (X.length + 3)) ver (A ++ (.box [.sl (De.css env), .int .i64 n, .int .i64 e] :: (X ++ [.lst 0 3 [], .lst 0 4 [], .lst ver 4 (Te.css es), .box [.ptr A.length 0, c1, c2, c3, c4, .ol (A.length + (X.length + 3)) ver], .box [.ptr (A.length + (X.length + 4)) 0]]))) (by simp)
  rcases hq : rebuild (.mk k N ls ks) es with ⟨k2, N2, ls2, ks2⟩
  simp only [hq, hp_inl, headD, Te.cs, cfl_f1, List.cons_append, List.nil_append, List.append_nil, List.append_assoc, Nat.add_assoc, Nat.reduceAdd] at hr he
  rw [Lh, L_reduce_Machine_Head_0, awL_eq, hdH]
  have hc := fun (h : 0 ≤ N) (hu : unfD env N ls = none) => constN_ok env n 0 A (X ++ [.lst 0 3 [], .lst 0 4 []]) [.box [.ptr (A.length + (X.length + 4)) 0]] ver es N h ls ks hu
  have hm := lamN_ok env n 0 A (X ++ [.lst 0 3 [], .lst 0 4 []]) [.box [.ptr (A.length + (X.length + 4)) 0]] ver 5 N ls ks
  simp only [List.append_assoc, List.cons_append, List.nil_append, List.length_append, List.length_cons, List.length_nil, Nat.add_assoc, Nat.reduceAdd] at hc hm
  rcases hst with h | ⟨rfl, h | ⟨rfl, h2, h3⟩ | ⟨rfl, rfl⟩⟩
  · simp only [↓reduceIte, go_sem, Te.cs, h, hb, backV, hr, he, hf, mB_lt, Nat.add_le_add_iff_left, Nat.reduceLeDiff, List.nodup_cons, List.not_mem_nil, not_false_eq_true, List.nodup_nil, and_self]
  · simp only [↓reduceIte, go_sem, Te.cs, steps_keys, steps_none k h, hb, backV, hr, he, hf, mB_lt, Nat.add_le_add_iff_left, Nat.reduceLeDiff, List.nodup_cons, List.not_mem_nil, not_false_eq_true, List.nodup_nil, and_self]
  · have hc := hc h2 h3
    simp only [↓reduceIte, go_sem, Te.cs, steps_keys, steps_3, hc, hb, backV, hr, he, hf, mB_lt, Nat.add_le_add_iff_left, Nat.reduceLeDiff, List.nodup_cons, List.not_mem_nil, not_false_eq_true, List.nodup_nil, and_self]
  · simp only [↓reduceIte, go_sem, Te.cs, steps_keys, steps_5, hm, hb, backV, hr, he, hf, mB_lt, Nat.add_le_add_iff_left, Nat.reduceLeDiff, List.nodup_cons, List.not_mem_nil, not_false_eq_true, List.nodup_nil, and_self]


variable (A X : List AO) (env : List De) (n0 e0 : Int)
theorem Lh_let (n : Nat) (hn : n + 1 ≤ 1000000) (ver : Nat) (es : List Te) (N : Int) (ls : List Lv) (s v b : Te) (hb : b.ok) (hv : v.ok) (r : Te) (e : Int) (ho : OpenS b v = (r, e)) :
    Lh A X env n0 e0 (n + 1 : Nat) 0 ver es (.mk 7 N ls [s, v, b]) = Lh A X env n0 e0 n e ver es r := by
  have h := let_ok env n hn A (X ++ [.lst 0 3 [], .lst 0 4 []]) [.box [.ptr (A.length + (X.length + 4)) 0]] ver es N ls s v b s hb hv r e ho
  simp only [List.append_assoc, List.cons_append, List.nil_append, List.length_append, List.length_cons, List.length_nil, Nat.add_assoc, Nat.reduceAdd] at h
  rcases r with ⟨k', n', ls', ks'⟩
  simp only [Te.cs, List.cons_append, List.nil_append] at h
  conv => lhs; rw [Lh, L_reduce_Machine_Head_0, awL_eq, hdH]
  simp only [↓reduceIte, go_sem, Te.cs, steps_keys, steps_7, h, Lh, hdH]
theorem Lh_let0 (ver : Nat) (es : List Te) (N : Int) (ls : List Lv) (ks : List Te) :
    Lh A X env n0 e0 0 0 ver es (.mk 7 N ls ks) = Lh A X env n0 e0 0 40 ver es (.mk 7 N ls ks) := by
  have h := let0_ok env A (X ++ [.lst 0 3 [], .lst 0 4 []]) [.box [.ptr (A.length + (X.length + 4)) 0]] ver es N ls ks
  simp only [List.append_assoc, List.cons_append, List.nil_append, List.length_append, List.length_cons, List.length_nil, Nat.add_assoc, Nat.reduceAdd] at h
  conv => lhs; rw [Lh, L_reduce_Machine_Head_0, awL_eq, hdH]
  simp only [↓reduceIte, go_sem, Te.cs, steps_keys, steps_7, h, Lh, hdH]
theorem Lh_const (hE : okDs env) (n : Nat) (hn : n + 1 ≤ 1000000) (ver : Nat) (es : List Te) (N : Int) (hN : 0 ≤ N) (ls : List Lv) (hls : okLs ls) (hll : ls.length ≤ 140737488355328) (ks : List Te) (d : De) (hu : unfD env N ls = some d) (r : Te) (e : Int) (hs : TSubS d.value ls [] = (r, e)) :
    Lh A X env n0 e0 (n + 1 : Nat) 0 ver es (.mk 3 N ls ks) = Lh A X env n0 e0 n e ver es r := by
  have h := constP_ok env hE n hn A (X ++ [.lst 0 3 [], .lst 0 4 []]) [.box [.ptr (A.length + (X.length + 4)) 0]] ver es N hN ls hls hll ks d hu r e hs
  simp only [List.append_assoc, List.cons_append, List.nil_append, List.length_append, List.length_cons, List.length_nil, Nat.add_assoc, Nat.reduceAdd] at h
  rcases r with ⟨k', n', ls', ks'⟩
  simp only [Te.cs, List.cons_append, List.nil_append] at h
  conv => lhs; rw [Lh, L_reduce_Machine_Head_0, awL_eq, hdH]
  simp only [↓reduceIte, go_sem, Te.cs, steps_keys, steps_3, h, Lh, hdH]
theorem Lh_const0 (ver : Nat) (es : List Te) (N : Int) (hN : 0 ≤ N) (ls : List Lv) (ks : List Te) (d : De) (hu : unfD env N ls = some d) :
    Lh A X env n0 e0 0 0 ver es (.mk 3 N ls ks) = Lh A X env n0 e0 0 40 ver es (.mk 3 N ls ks) := by
  have h := const0_ok env A (X ++ [.lst 0 3 [], .lst 0 4 []]) [.box [.ptr (A.length + (X.length + 4)) 0]] ver es N hN ls ks d hu
  simp only [List.append_assoc, List.cons_append, List.nil_append, List.length_append, List.length_cons, List.length_nil, Nat.add_assoc, Nat.reduceAdd] at h
  conv => lhs; rw [Lh, L_reduce_Machine_Head_0, awL_eq, hdH]
  simp only [↓reduceIte, go_sem, Te.cs, steps_keys, steps_3, h, Lh, hdH]
theorem Lh_lam (n : Nat) (hn : n + 1 ≤ 1000000) (ver : Nat) (es : List Te) (hes : es.length ≤ 1073741824) (a : Te) (ha : a.ok) (N : Int) (ls : List Lv) (s b : Te) (hb : b.ok) (r : Te) (e : Int) (ho : OpenS b a = (r, e)) :
    Lh A X env n0 e0 (n + 1 : Nat) 0 ver (es ++ [a]) (.mk 5 N ls [s, b]) = Lh A X env n0 e0 n e (ver + 1) es r := by
  have h := lam_ok env n hn A (X ++ [.lst 0 3 [], .lst 0 4 []]) [.box [.ptr (A.length + (X.length + 4)) 0]] ver es hes a ha 5 N ls s b hb r e ho
  simp only [List.append_assoc, List.cons_append, List.nil_append, List.length_append, List.length_cons, List.length_nil, Nat.add_assoc, Nat.reduceAdd] at h
  rcases r with ⟨k', n', ls', ks'⟩
  simp only [Te.cs, List.cons_append, List.nil_append] at h
  conv => lhs; rw [Lh, L_reduce_Machine_Head_0, awL_eq, hdH]
  simp only [↓reduceIte, go_sem, Te.cs, steps_keys, steps_5, h, Lh, hdH]
theorem Lh_lam0 (ver : Nat) (es : List Te) (hes : es.length ≤ 1073741824) (a : Te) (N : Int) (ls : List Lv) (ks : List Te) :
    Lh A X env n0 e0 0 0 ver (es ++ [a]) (.mk 5 N ls ks) = Lh A X env n0 e0 0 40 (ver + 1) es (.mk 5 N ls ks) := by
  have h := lam0_ok env A (X ++ [.lst 0 3 [], .lst 0 4 []]) [.box [.ptr (A.length + (X.length + 4)) 0]] ver es hes a 5 N ls ks
  simp only [List.append_assoc, List.cons_append, List.nil_append, List.length_append, List.length_cons, List.length_nil, Nat.add_assoc, Nat.reduceAdd] at h
  conv => lhs; rw [Lh, L_reduce_Machine_Head_0, awL_eq, hdH]
  simp only [↓reduceIte, go_sem, Te.cs, steps_keys, steps_5, h, Lh, hdH]
theorem Lh_app (n : Int) (ver : Nat) (es : List Te) (hes : es.length < 1073741824) (N : Int) (ls : List Lv) (f a : Te) :
    Lh A X env n0 e0 n 0 ver es (.mk 4 N ls [f, a]) = Lh A X env n0 e0 n 0 (ver + 1) (es ++ [a]) f := by
  have h := spApp_ok env n 0 A (X ++ [.lst 0 3 [], .lst 0 4 []]) [.box [.ptr (A.length + (X.length + 4)) 0]] ver es hes 4 N ls f a
  simp only [List.append_assoc, List.cons_append, List.nil_append, List.length_append, List.length_cons, List.length_nil, Nat.add_assoc, Nat.reduceAdd] at h
  rcases f with ⟨k', n', ls', ks'⟩
  simp only [Te.cs, List.cons_append, List.nil_append] at h
  conv => lhs; rw [Lh, L_reduce_Machine_Head_0, awL_eq, hdH]
  simp only [↓reduceIte, go_sem, Te.cs, steps_keys, steps_4, h, Lh, hdH]
end Go.Ab
