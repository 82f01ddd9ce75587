/- Part K: slices of slices; every operation of the small code is what the program's operation does. Conditions: none. -/
import Derived.Test.YtnkblnmcabfbmaaAbsJ
set_option linter.unusedVariables false
set_option linter.unusedSimpArgs false
namespace Go.Ab
open Go.RowKit

variable {P : Program}

theorem elem_of {t e : TypeId} (h : P.underlying t = some (.slice e)) : P.elem t = e := by simp [Program.elem, h]
theorem und_elem {t e : TypeId} (h : P.underlying t = some (.slice e)) : P.underlying t = some (.slice (P.elem t)) := by rw [elem_of h]; exact h
/-- A part of a list that is never written again. -/
theorem RV.part {g : G} {es : List (List AV)} {A : Option Addr} {n c sz l h : Nat} (hr : RV g (.sl es) (.slice A n c)) (hsz : ∀ e ∈ es, e.length = sz) (hlh : l ≤ h) (hh : h ≤ es.length) : RV g (.sl ((es.take h).drop l)) (sliced A l h c sz) := by
  have hnil : h = l → (es.take h).drop l = [] := fun e => by subst e; simp
  unfold sliced
  cases hr with
  | sl0 A c =>
    have h0 : h = 0 := by simpa using hh
    have l0 : l = 0 := by omega
    subst h0; subst l0
    exact .sl0 _ _
  | sl f hl hn hnc hz ho hf hrr =>
    rename_i b o sz'
    by_cases hcl : c = l
    · have : h = l := by omega
      rw [hnil this, this, Nat.sub_self]
      exact .sl0 _ _
    · rw [if_neg hcl]
      simp only [Option.map_some, Addr.add_lit]
      have hpart : ∀ (k : Nat) (a : AV), ((es.take h).drop l).flatten[k]? = some a → es.flatten[l * sz + k]? = some a := by
        intro k a ha
        rw [flatten_drop (sz := sz) (fun e he => hsz e (List.mem_of_mem_take he)), flatten_take hsz, List.getElem?_drop, List.getElem?_take] at ha
        split at ha
        · exact ha
        · cases ha
      refine .sl (fun k => f (l * sz + k)) (by simp; omega) (by omega) (by omega) (fun e he => hsz e (List.mem_of_mem_take (List.mem_of_mem_drop he))) (fun a ha => ?_) (fun k a ha => by rw [Nat.add_assoc]; exact hf _ a (hpart k a ha)) (fun k a ha => hrr _ a (hpart k a ha))
      obtain ⟨x, hx, hax⟩ := List.mem_flatten.1 ha
      exact ho a (List.mem_flatten.2 ⟨x, List.mem_of_mem_take (List.mem_of_mem_drop hx), hax⟩)
theorem ok_slc {o : Oper} {t : TypeId} {sz : Nat} {x : Operand} {lo hi : Option Operand} {ax : AX} {al ah : Option AX} (ho : o.op = .slice t x lo hi none) (hs : esz P t = some sz) (h1 : cx x = some ax)
    (hlo : (lo = none ∧ al = none) ∨ ∃ y ay, lo = some y ∧ al = some ay ∧ cx y = some ay) (hhi : (hi = none ∧ ah = none) ∨ ∃ y ay, hi = some y ∧ ah = some ay ∧ cx y = some ay)
    {σ σ1 : St} {z : TV} {d : Nat} (he : evo d (.slc sz ax al ah) σ = some (z, σ1)) : OkAt P o z σ σ1 := by
  obtain ⟨e, i, zv, hu, _, hi', hzv, hzs, his, hpos, hby⟩ := esz_ok hs
  have hsl : ∀ w : World, (sizeOf (P.elem t)).run P w = .ok sz w := fun w => run_sizeOf (by rw [elem_of hu]; simp [szOf, hi', his]) w
  have hat : ∀ (v : Value) (a b : Option Value) (w : World), (Instr.sliceAt t v a b none).run P w = (Instr.slice t v a b none).run P w := fun v a b w => run_sliceAt_slice w t v a b none (und_elem hu)
  simp only [evo] at he
  split at he
  · rename_i es e1
    split at he
    · rename_i l h hl hh
      split at he
      · rename_i hc
        obtain ⟨h0, hlh, hhl, hsz⟩ := hc
        cases he
        refine ok_val fun g0 h0' w0 g lb act w m T => ?_
        have hx := a_rv T h1 e1
        generalize hgx : act.eval x = vx at hx
        obtain ⟨A, n, c, rfl, hn, hnc⟩ : ∃ A n c, vx = .slice A n c ∧ es.length = n ∧ n ≤ c := by
          cases hx with
          | sl0 A c => exact ⟨A, 0, c, rfl, rfl, Nat.zero_le _⟩
          | sl f hl hn hnc => exact ⟨_, _, _, rfl, hl, hnc⟩
        subst hn
        refine ⟨sliced A l.toNat h.toNat c sz, exec_v (s := Instr.sliceAt t (act.eval x) (lo.map act.eval) (hi.map act.eval) none) (by simp only [execOp, ho]; rfl) ?_, hx.part hsz (by omega) (by omega)⟩
        rw [hgx, hat]
        rcases hlo with ⟨rfl, rfl⟩ | ⟨ol, al', rfl, rfl, hcl⟩ <;> rcases hhi with ⟨rfl, rfl⟩ | ⟨oh, ah', rfl, rfl, hch⟩
        · cases hl; cases hh
          rw [Option.map_none, run_slice_all w t A es.length c (und_elem hu), hsl]; simp
        · cases hl
          simp only at hh
          split at hh
          · rename_i k n e2
            cases hh
            have hy := a_rv T hch e2
            generalize hgy : act.eval oh = vy at hy
            cases hy
            rw [Option.map_none, Option.map_some, hgy, run_slice_h w t A es.length c (und_elem hu) k h (by omega) (by omega), hsl]; simp
          · cases hh
        · cases hh
          simp only at hl
          split at hl
          · rename_i k n e2
            cases hl
            have hy := a_rv T hcl e2
            generalize hgy : act.eval ol = vy at hy
            cases hy
            rw [Option.map_none, Option.map_some, hgy, run_slice_l w t A es.length c (und_elem hu) k l h0 (by omega), hsl]; simp
          · cases hl
        · simp only at hl hh
          split at hl
          · rename_i k n e2
            split at hh
            · rename_i k' n' e3
              cases hl; cases hh
              have hy := a_rv T hcl e2
              have hy' := a_rv T hch e3
              generalize hgy : act.eval ol = vy at hy
              generalize hgy' : act.eval oh = vy' at hy'
              cases hy; cases hy'
              rw [Option.map_some, Option.map_some, hgy, hgy', run_slice_lh w t A es.length c (und_elem hu) k k' l h h0 hlh (by omega), hsl]; simp
            · cases hh
          · cases hl
      · cases he
    · cases he
  · rename_i id ver e1
    split at he
    · rename_i y
      split at he
      · rename_i k n v0 sz' es e2 hh
        split at he
        · rename_i hc
          obtain ⟨rfl, rfl, _, h0, hle⟩ := hc
          cases he
          rcases hlo with ⟨rfl, _⟩ | ⟨_, _, _, h, _⟩
          · rcases hhi with ⟨_, h⟩ | ⟨oy, ay, rfl, h, hcy⟩
            · cases h
            · cases h
              refine .val rfl rfl rfl (fun g lb act w s T => ?_) (fun i b ob hi => get_set_raw hh (fun _ _ e => by cases e) hi)
              have hx := a_rv T h1 e1
              have hy := a_rv T hcy e2
              generalize hgx : act.eval x = vx at hx
              generalize hgy : act.eval oy = vy at hy
              cases hy
              have hver := s.ver _ _ _ _ hh
              cases hx with
              | ol hd =>
                rename_i B m cap
                have hle' : g.Le (g.addHd id (v0 + 1) (B, n.toNat, cap)) := G.le_addHd (hver _ (Nat.lt_succ_self _))
                have hh' : (g.addHd id (v0 + 1) (B, n.toNat, cap)).hd id (v0 + 1) = some (B, n.toNat, cap) := by simp [G.addHd]
                have fin : ObjOk (g.addHd id (v0 + 1) (B, n.toNat, cap)) w id (.lst (v0 + 1) sz' (es.take n.toNat)) → (∀ b', B = some ⟨b', 0, none⟩ → OwnAt g id b' (.lst v0 sz' es)) → (n ≤ (cap : Int)) → (B = none ∨ ∃ b, B = some ⟨b, 0, none⟩) →
                    ∃ g' w' v, Sat g' (σ.h.set id (.lst (v0 + 1) sz' (es.take n.toNat))) w' ∧ Ev g σ.h w g' (σ.h.set id (.lst (v0 + 1) sz' (es.take n.toNat))) w' ∧ RV g' (.ol id (v0 + 1)) v ∧ (execOp act.eval o).run P w = .ok (.value v) w' := by
                  intro hok hB hnc hBf
                  obtain ⟨h5, h6⟩ := s.upd hh hle' rfl rfl rfl (fun i hi => by funext v; simp [G.addHd, hi]) (.refl w _) hok (fun b' ⟨n', c', hb'⟩ => by
                    rw [hh'] at hb'; injection hb' with hb'; injection hb' with hb' _; exact .inl (hB b' hb')) (fun ver sz es2 e v hv => by
                    injection e with e1 _ _; subst e1
                    have : (g.addHd id (v0 + 1) (B, n.toNat, cap)).hd id v = g.hd id v := by simp [G.addHd]; intro h; omega
                    rw [this]; exact hver v (by omega))
                  refine ⟨_, w, .slice B n.toNat cap, h5, h6, .ol hh', exec_v (s := Instr.sliceAt t (act.eval x) none (some (act.eval oy)) none) (by simp only [execOp, ho]; rfl) ?_⟩
                  rw [hgx, hgy, hat, run_slice_h w t B m cap (und_elem hu) k n h0 hnc, hsl]
                  simp only [Result.andThen_ok, sliced, Nat.sub_zero, Nat.zero_mul]
                  congr 1
                  rcases hBf with rfl | ⟨b, rfl⟩
                  · simp
                  · simp [Addr.add]
                rcases s.obj _ _ hh with ⟨h3, h4⟩ | ⟨b', cap', c', t', l1, l2, h3, h4, h5, h6, h7, h8, h9, h10, h11, h12⟩
                · subst h3
                  rw [hd] at h4; cases h4
                  have hn0 : n.toNat = 0 := by simp at hle; omega
                  rw [hn0] at fin hh' ⊢
                  exact fin (.inl ⟨by simp, hh'⟩) (fun b' h => by cases h) (by simp at hle; omega) (.inl rfl)
                · rw [hd] at h3; cases h3
                  have hfl := flatten_take h9 n.toNat
                  have hn : n.toNat ≤ es.length := by omega
                  refine fin (.inr ⟨b', cap, c', t', l1.take (n.toNat * sz'), l1.drop (n.toNat * sz') ++ l2, by rw [hh', List.length_take, Nat.min_eq_left hn], h4, h5, h6, by rw [List.length_take]; omega, by rw [List.length_take]; omega, fun x hx => h9 x (List.mem_of_mem_take hx), by rw [h10, ← List.append_assoc, List.take_append_drop], ?_, ?_⟩) (fun b'' h => by injection h with h; injection h with h; subst h; exact ⟨_, _, hd⟩) (by omega) (.inr ⟨_, rfl⟩)
                  · rw [hfl]; exact (h11.mono hle').take _
                  · rw [hfl]; intro a ha; exact h12 a (List.mem_of_mem_take ha)
          · cases h
        · cases he
      · cases he
    · cases he
  · cases he
end Go.Ab
