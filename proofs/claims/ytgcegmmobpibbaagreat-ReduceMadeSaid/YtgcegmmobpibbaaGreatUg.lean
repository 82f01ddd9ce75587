/- What a term comes to: the program's machine, step by step. Conditions: none. -/
import Derived.Test.YtgcegmmobpibbaaGreatUf
set_option linter.unusedVariables false
set_option linter.unusedSimpArgs false
set_option maxRecDepth 100000
set_option maxHeartbeats 2000000
namespace Go.Ab
open Go.RowKit Go.Proofs

variable (A X : List AO) (env : List De) (n0 e0 : Int)
theorem Lh_let (n : Nat) (hn : n + 1 ≤ 1000000) (ver : Nat) (es : List Te) (N : Int) (ls : List Lv) (s v b : Te) (hb : b.ok) (hv : v.ok) (r : Te) (e : Int) (ho : OpenS b v = (r, e)) :
    Lh A X env n0 e0 (n + 1 : Nat) 0 ver es (.mk 7 N ls [s, v, b]) = Lh A X env n0 e0 n e ver es r := by
  have h := let_ok env n hn A (X ++ [.lst 0 3 [], .lst 0 4 []]) [.box [.ptr (A.length + (X.length + 4)) 0]] ver es N ls s v b s hb hv r e ho
  simp only [List.append_assoc, List.cons_append, List.nil_append, List.length_append, List.length_cons, List.length_nil, Nat.add_assoc, Nat.reduceAdd] at h
  rcases r with ⟨k', n', ls', ks'⟩
  simp only [Te.cs, List.cons_append, List.nil_append] at h
  conv => lhs; rw [Lh, L_reduce_Machine_Head_0, awL_eq, hdH]
  simp only [↓reduceIte, go_sem, Te.cs, steps_keys, steps_7, h, Lh, hdH]
theorem Lh_let0 (ver : Nat) (es : List Te) (N : Int) (ls : List Lv) (ks : List Te) :
    Lh A X env n0 e0 0 0 ver es (.mk 7 N ls ks) = Lh A X env n0 e0 0 40 ver es (.mk 7 N ls ks) := by
  have h := let0_ok env A (X ++ [.lst 0 3 [], .lst 0 4 []]) [.box [.ptr (A.length + (X.length + 4)) 0]] ver es N ls ks
  simp only [List.append_assoc, List.cons_append, List.nil_append, List.length_append, List.length_cons, List.length_nil, Nat.add_assoc, Nat.reduceAdd] at h
  conv => lhs; rw [Lh, L_reduce_Machine_Head_0, awL_eq, hdH]
  simp only [↓reduceIte, go_sem, Te.cs, steps_keys, steps_7, h, Lh, hdH]
theorem Lh_const (hE : okDs env) (n : Nat) (hn : n + 1 ≤ 1000000) (ver : Nat) (es : List Te) (N : Int) (hN : 0 ≤ N) (ls : List Lv) (hls : okLs ls) (hll : ls.length ≤ 140737488355328) (ks : List Te) (d : De) (hu : unfD env N ls = some d) (r : Te) (e : Int) (hs : TSubS d.value ls [] = (r, e)) :
    Lh A X env n0 e0 (n + 1 : Nat) 0 ver es (.mk 3 N ls ks) = Lh A X env n0 e0 n e ver es r := by
  have h := constP_ok env hE n hn A (X ++ [.lst 0 3 [], .lst 0 4 []]) [.box [.ptr (A.length + (X.length + 4)) 0]] ver es N hN ls hls hll ks d hu r e hs
  simp only [List.append_assoc, List.cons_append, List.nil_append, List.length_append, List.length_cons, List.length_nil, Nat.add_assoc, Nat.reduceAdd] at h
  rcases r with ⟨k', n', ls', ks'⟩
  simp only [Te.cs, List.cons_append, List.nil_append] at h
  conv => lhs; rw [Lh, L_reduce_Machine_Head_0, awL_eq, hdH]
  simp only [↓reduceIte, go_sem, Te.cs, steps_keys, steps_3, h, Lh, hdH]
theorem Lh_const0 (ver : Nat) (es : List Te) (N : Int) (hN : 0 ≤ N) (ls : List Lv) (ks : List Te) (d : De) (hu : unfD env N ls = some d) :
    Lh A X env n0 e0 0 0 ver es (.mk 3 N ls ks) = Lh A X env n0 e0 0 40 ver es (.mk 3 N ls ks) := by
  have h := const0_ok env A (X ++ [.lst 0 3 [], .lst 0 4 []]) [.box [.ptr (A.length + (X.length + 4)) 0]] ver es N hN ls ks d hu
  simp only [List.append_assoc, List.cons_append, List.nil_append, List.length_append, List.length_cons, List.length_nil, Nat.add_assoc, Nat.reduceAdd] at h
  conv => lhs; rw [Lh, L_reduce_Machine_Head_0, awL_eq, hdH]
  simp only [↓reduceIte, go_sem, Te.cs, steps_keys, steps_3, h, Lh, hdH]
theorem Lh_lam (n : Nat) (hn : n + 1 ≤ 1000000) (ver : Nat) (es : List Te) (hes : es.length ≤ 1073741824) (a : Te) (ha : a.ok) (N : Int) (ls : List Lv) (s b : Te) (hb : b.ok) (r : Te) (e : Int) (ho : OpenS b a = (r, e)) :
    Lh A X env n0 e0 (n + 1 : Nat) 0 ver (es ++ [a]) (.mk 5 N ls [s, b]) = Lh A X env n0 e0 n e (ver + 1) es r := by
  have h := lam_ok env n hn A (X ++ [.lst 0 3 [], .lst 0 4 []]) [.box [.ptr (A.length + (X.length + 4)) 0]] ver es hes a ha 5 N ls s b hb r e ho
  simp only [List.append_assoc, List.cons_append, List.nil_append, List.length_append, List.length_cons, List.length_nil, Nat.add_assoc, Nat.reduceAdd] at h
  rcases r with ⟨k', n', ls', ks'⟩
  simp only [Te.cs, List.cons_append, List.nil_append] at h
  conv => lhs; rw [Lh, L_reduce_Machine_Head_0, awL_eq, hdH]
  simp only [↓reduceIte, go_sem, Te.cs, steps_keys, steps_5, h, Lh, hdH]
theorem Lh_lam0 (ver : Nat) (es : List Te) (hes : es.length ≤ 1073741824) (a : Te) (N : Int) (ls : List Lv) (ks : List Te) :
    Lh A X env n0 e0 0 0 ver (es ++ [a]) (.mk 5 N ls ks) = Lh A X env n0 e0 0 40 (ver + 1) es (.mk 5 N ls ks) := by
  have h := lam0_ok env A (X ++ [.lst 0 3 [], .lst 0 4 []]) [.box [.ptr (A.length + (X.length + 4)) 0]] ver es hes a 5 N ls ks
  simp only [List.append_assoc, List.cons_append, List.nil_append, List.length_append, List.length_cons, List.length_nil, Nat.add_assoc, Nat.reduceAdd] at h
  conv => lhs; rw [Lh, L_reduce_Machine_Head_0, awL_eq, hdH]
  simp only [↓reduceIte, go_sem, Te.cs, steps_keys, steps_5, h, Lh, hdH]
theorem Lh_app (n : Int) (ver : Nat) (es : List Te) (hes : es.length < 1073741824) (N : Int) (ls : List Lv) (f a : Te) :
    Lh A X env n0 e0 n 0 ver es (.mk 4 N ls [f, a]) = Lh A X env n0 e0 n 0 (ver + 1) (es ++ [a]) f := by
  have h := spApp_ok env n 0 A (X ++ [.lst 0 3 [], .lst 0 4 []]) [.box [.ptr (A.length + (X.length + 4)) 0]] ver es hes 4 N ls f a
  simp only [List.append_assoc, List.cons_append, List.nil_append, List.length_append, List.length_cons, List.length_nil, Nat.add_assoc, Nat.reduceAdd] at h
  rcases f with ⟨k', n', ls', ks'⟩
  simp only [Te.cs, List.cons_append, List.nil_append] at h
  conv => lhs; rw [Lh, L_reduce_Machine_Head_0, awL_eq, hdH]
  simp only [↓reduceIte, go_sem, Te.cs, steps_keys, steps_4, h, Lh, hdH]
end Go.Ab
