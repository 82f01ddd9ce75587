/- Part L: every operation of the small code is what the program's operation does. Conditions: none. -/
import Derived.Test.YtnkblnmcabfbmaaAbsLf
set_option linter.unusedVariables false
set_option linter.unusedSimpArgs false
namespace Go.Ab
open Go.RowKit

variable {P : Program}

theorem map_some {α β : Type} {f : α → β} {x : Option α} {y : β} (h : x.map f = some y) : ∃ a, x = some a ∧ y = f a := by
  cases x with
  | none => cases h
  | some a => cases h; exact ⟨a, rfl, rfl⟩
theorem list1 {α : Type} {a : Array α} {x : α} (h : a.toList = [x]) : a = #[x] := by
  apply Array.ext'; simpa using h
theorem list2 {α : Type} {a : Array α} {x y : α} (h : a.toList = [x, y]) : a = #[x, y] := by
  apply Array.ext'; simpa using h
set_option maxHeartbeats 1000000 in
theorem op_ok {esc own : List Nat} {o : Oper} {op : AOp} (hc : cop P esc own o = some op) {σ σ1 : St} {x : TV} (he : evo (o.dst.getD 0) op σ = some (x, σ1)) : OkAt P o x σ σ1 := by
  unfold cop at hc
  split at hc
  · rename_i y ho
    split at hc
    · rename_i hh
      obtain ⟨sz, _, rfl⟩ := map_some hc
      exact ok_mvO (.inl ho) (by simp at hh; exact hh.2) he
    · obtain ⟨ax, hx, rfl⟩ := map_some hc
      simp only [evo] at he; cases he
      exact ok_mv (.inl ho) hx σ
  · rename_i y ho
    split at hc
    · rename_i hh
      obtain ⟨sz, _, rfl⟩ := map_some hc
      exact ok_mvO (.inr ho) (by simp at hh; exact hh.2) he
    · obtain ⟨ax, hx, rfl⟩ := map_some hc
      simp only [evo] at he; cases he
      exact ok_mv (.inr ho) hx σ
  · rename_i c a b ho
    split at hc
    · rename_i ac aa ab h1 h2 h3
      cases hc
      simp only [evo] at he
      split at he
      · rename_i p hp
        have := ok_pick ho h1 h2 h3 hp (P := P)
        cases p <;> (simp only at he; cases he; simpa using this)
      · cases he
    · cases hc
  · rename_i e ho
    obtain ⟨z, hz, rfl⟩ := map_some hc
    split at he
    · split at he
      · exact ok_alcHO ho hz he
      · exact ok_alcH ho hz he
    · split at he
      · exact ok_alcO ho hz he
      · exact ok_alc ho hz he
  · rename_i t y ho
    obtain ⟨ax, hx, rfl⟩ := map_some hc
    split at he
    · exact ok_bxH ho hx he
    · exact ok_bx ho hx he
  · rename_i t ps ho
    split at hc
    · rename_i z fs hz hu
      split at hc
      · rename_i places hp
        obtain ⟨l, hl, rfl⟩ := map_some hc
        split at he
        · exact ok_bldO ho hu hz hp hl he
        · exact ok_bld ho hu hz hp hl he
      · cases hc
    · cases hc
  · rename_i t n ps ho
    split at hc
    · rename_i sz e hs hel
      split at hc
      · rename_i z l hz hl
        split at hc
        · cases hc
        · rename_i hn
          cases hc
          split at he
          · exact ok_bslO ho hs hel hz hl hn he
          · exact ok_bsl ho hs hel hz hl hn he
      · cases hc
    · cases hc
  · rename_i t m k v ho
    split at hc
    · rename_i kt et hu
      split at hc
      · rename_i ik hk
        split at hc
        · rename_i am ak av h1 h2 h3
          cases hc
          exact ok_ins (.inl ho) hu hk h1 h2 h3 he
        · cases hc
      · cases hc
    · cases hc
  · rename_i t m k v ho
    split at hc
    · rename_i kt et hu
      split at hc
      · rename_i ik hk
        split at hc
        · rename_i am ak av h1 h2 h3
          cases hc
          exact ok_ins (.inr ho) hu hk h1 h2 h3 he
        · cases hc
      · cases hc
    · cases hc
  · rename_i t a ho
    split at hc
    · rename_i n ag ax h1 h2 h3
      cases hc
      split at he
      · exact ok_ldl ho h1 h2 h3 he
      · split at he
        · exact ok_ldz ho h1 h2 h3 he
        · exact ok_ld ho h1 h2 h3 he
    · cases hc
  · rename_i t a v ho
    split at hc
    · rename_i n ax ay h1 h2 h3
      cases hc
      exact ok_st ho h1 h2 h3 he
    · cases hc
  · rename_i y ho
    obtain ⟨ax, hx, rfl⟩ := map_some hc
    exact ok_nilc ho hx he
  · rename_i bop t y z yt ho
    split at hc
    · rename_i ax ay h1 h2
      split at hc
      · rename_i hu
        cases hc
        exact ok_eqb (neg := false) ho hu h1 h2 he
      · rename_i hu
        cases hc
        exact ok_eqb (neg := true) ho hu h1 h2 he
      · cases hc
      · cases hc
      · cases hc
        exact ok_bin ho h1 h2 he
    · cases hc
  · rename_i t y ho
    obtain ⟨ax, hx, rfl⟩ := map_some hc
    exact ok_not ho hx he
  · rename_i s t y ho
    split at hc
    · rename_i sd k hs ht
      obtain ⟨ax, hx, rfl⟩ := map_some hc
      exact ok_cv ho hs ht hx he
    · cases hc
  · rename_i s y f ho
    split at hc
    · rename_i fs hs
      split at hc
      · rename_i fd hf
        split at hc
        · rename_i n hn
          split at hc
          · cases hc
          · rename_i hn0
            obtain ⟨ax, hx, rfl⟩ := map_some hc
            exact ok_fa ho hs hf hn hn0 hx he
        · cases hc
      · cases hc
    · cases hc
  · rename_i t y f ho
    split at hc
    · rename_i fs hs
      split at hc
      · rename_i fd hf
        split at hc
        · rename_i n ag hn hag
          obtain ⟨ax, hx, rfl⟩ := map_some hc
          exact ok_fld ho hs hf hn hag hx he
        · cases hc
      · cases hc
    · cases hc
  · rename_i t y i ho
    split at hc
    · rename_i e hel
      split at hc
      · rename_i sz ax ai hsz h1 h2
        cases hc
        refine ok_ia ho ?_ hsz h1 h2 he
        unfold elemOfSlice at hel
        split at hel
        · cases hel; assumption
        · cases hel
      · cases hc
    · cases hc
  · rename_i t y i ok ho
    split at hc
    · rename_i kt et hu
      split at hc
      · rename_i ik hk
        split at hc
        · rename_i z ag ax ai hz hag h1 h2
          obtain ⟨inf, zv, hi, hzv, hr, hone⟩ := zeroAV_ok hz
          split at hc
          · cases hc
            refine ok_lk ho hu hk hi hzv (fun g => ?_) h1 h2 he
            have hcell := noz_rv (hr g)
            unfold zeroAgg at hag
            rw [hi] at hag
            dsimp only at hag
            rw [hzv] at hag
            cases zv <;> first
              | exact RV.agg_iff.2 hcell
              | cases hag
          · rename_i a
            split at hc
            · rename_i a' r' hno
              cases hc
              refine ok_lk ho hu hk hi hzv (fun g => ?_) h1 h2 he
              have hcell := noz_rv (hr g)
              rw [hno] at hcell
              unfold zeroAgg at hag
              rw [hi] at hag
              dsimp only at hag
              rw [hzv] at hag
              obtain ⟨u, us, hu1, hu2, _⟩ := hcell.inv
              cases zv <;> first
                | (cases hag; done)
                | (simp [Value.cells] at hu1; obtain ⟨rfl, _⟩ := hu1; exact hu2)
            · cases hc
          · cases hc
        · cases hc
      · cases hc
    · cases hc
  · rename_i t i ho
    obtain ⟨ax, hx, rfl⟩ := map_some hc
    exact ok_ext ho hx he
  · rename_i fn first cap ho
    split at hc
    · rename_i a b h1 h2
      cases hc
      exact ok_mkf ho h1 h2 he
    · cases hc
  · rename_i t ho
    cases hc
    exact ok_mkm ho he
  · rename_i t l c ho
    split at hc
    · rename_i sz e al hlc hs hel hx
      obtain ⟨z, hz, rfl⟩ := map_some hc
      split at he
      · exact ok_mks ho hlc hs hel hx hz he
      · exact ok_mkz ho hlc hs hel hx hz he
    · cases hc
  · rename_i t y lo hi ho
    split at hc
    · rename_i sz ax hs h1
      split at hc
      · cases hc
        exact ok_slc ho hs h1 (.inl ⟨rfl, rfl⟩) (.inl ⟨rfl, rfl⟩) he
      · rename_i l
        obtain ⟨al, hl, rfl⟩ := map_some hc
        exact ok_slc ho hs h1 (.inr ⟨_, _, rfl, rfl, hl⟩) (.inl ⟨rfl, rfl⟩) he
      · rename_i h
        obtain ⟨ah, hh, rfl⟩ := map_some hc
        exact ok_slc ho hs h1 (.inl ⟨rfl, rfl⟩) (.inr ⟨_, _, rfl, rfl, hh⟩) he
      · rename_i l h
        split at hc
        · rename_i al ah hl hh
          cases hc
          exact ok_slc ho hs h1 (.inr ⟨_, _, rfl, rfl, hl⟩) (.inr ⟨_, _, rfl, rfl, hh⟩) he
        · cases hc
    · cases hc
  · rename_i t y ho
    split at hc
    · cases hc
    · cases hc
    · rename_i d hne hu
      obtain ⟨ax, hx, rfl⟩ := map_some hc
      refine ok_ifc ho ?_ hx he
      unfold Program.concrete
      rw [hu]
      cases d <;> first
        | rfl
        | exact absurd rfl (hne _)
  · rename_i c ho
    obtain ⟨callee, args, argTypes⟩ := c
    split at hc
    · rename_i y hcal hargs
      split at hc
      · rename_i t hts
        split at hc
        · rename_i e hu
          obtain ⟨ax, hx, rfl⟩ := map_some hc
          dsimp only at hcal hargs hts
          rw [hcal, list1 hargs, list1 hts] at ho
          exact ok_len ho hu hx he
        · cases hc
      · cases hc
    · rename_i y z hcal hargs
      split at hc
      · rename_i t u hts
        split at hc
        · rename_i htu
          subst htu
          split at hc
          · rename_i sz ax ay hs h1 h2
            cases hc
            dsimp only at hcal hargs hts
            rw [hcal, list2 hargs, list2 hts] at ho
            exact ok_app ho hs h1 h2 he
          · cases hc
        · cases hc
      · cases hc
    · rename_i y z hcal hargs
      split at hc
      · rename_i ax ay h1 h2
        cases hc
        dsimp only at hcal hargs
        rw [hcal, list2 hargs] at ho
        exact ok_mx ho h1 h2 he
      · cases hc
    · cases hc
  · cases hc
end Go.Ab
