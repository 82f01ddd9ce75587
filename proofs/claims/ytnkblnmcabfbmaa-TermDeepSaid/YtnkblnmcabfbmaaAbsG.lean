/- Part G: addresses, parts, look-ups, values put together. Conditions: none. -/
import Derived.Test.YtnkblnmcabfbmaaAbsF
set_option linter.unusedVariables false
set_option linter.unusedSimpArgs false
namespace Go.Ab
open Go.RowKit

variable {P : Program}

theorem ok_fa {o : Oper} {s : TypeId} {fs : Array Field} {f : Nat} {fd : Field} {n : Nat} {x : Operand} {ax : AX} (ho : o.op = .fieldAddr s x f) (hs : P.underlying s = some (.struct fs)) (hf : fs[f]? = some fd) (hn : szOf P fd.type = some n) (hn0 : n ≠ 0)
    (h1 : cx x = some ax) {σ σ1 : St} {z : TV} {d : Nat} (he : evo d (.fa fd.offset ax) σ = some (z, σ1)) : OkAt P o z σ σ1 := by
  have run : ∀ {act : Act} {w : World} {b off : Nat}, act.eval x = .pointer (some ⟨b, off, none⟩) → (execOp act.eval o).run P w = .ok (.value (.pointer (some ⟨b, off + fd.offset, none⟩))) w := by
    intro act w b off hp
    refine exec_v (s := Instr.fieldAt s (act.eval x) f) (by simp only [execOp, ho]) ?_
    rw [hp]
    simp [Instr.fieldAt, run_underlying hs, hf, Instr.sureAddr, fieldPlace, run_sizeOf hn, hn0, Addr.add_lit]
  simp only [evo] at he
  split at he
  · rename_i k off hq
    cases he
    refine .pure fun g0 h0 w0 g lb act w m T => ?_
    have hv := ax_rt T h1; rw [hq] at hv
    exact ⟨_, run hv, rfl, fun k' off' e => by injection e with e1 _; subst e1; exact x_live T hq⟩
  · rename_i cs hq
    cases he
    refine .pure fun g0 h0 w0 g lb act w m T => ?_
    have hv := ax_rt T h1; rw [hq] at hv
    obtain ⟨b, off, hp, f', h3, h4⟩ := hv
    refine ⟨_, run hp, ⟨b, off + fd.offset, rfl, fun k => f' (fd.offset + k), fun k a ha => ?_, fun k a ha => ?_⟩, fun k off e => by cases e⟩
    · rw [List.getElem?_drop] at ha; rw [Nat.add_assoc]; exact h3 _ a ha
    · rw [List.getElem?_drop] at ha; exact h4 _ a ha
  · rename_i id off hq
    cases he
    refine ok_val fun g0 h0 w0 g lb act w m T => ?_
    have hv := ax_rt T h1; rw [hq] at hv
    have hv : RV g (.ptr id off) (act.eval x) := hv
    generalize hgx : act.eval x = vx at hv
    cases hv with
    | ptr hb => exact ⟨_, run hgx, .ptr hb⟩
  · rename_i id ver sz i off hq
    cases he
    refine .pure fun g0 h0 w0 g lb act w m T => ?_
    have hv := ax_rt T h1; rw [hq] at hv
    obtain ⟨b, n0, c0, hd, hp⟩ := hv
    exact ⟨_, run hp, ⟨b, n0, c0, hd, by rw [Nat.add_assoc]⟩, fun k off e => by cases e⟩
  · cases he

theorem run_part {g : G} {t : TypeId} {n : Nat} {ag : Bool} (hn : szOf P t = some n) (hag : agOf P t = some ag) (w : World) {cs : List AV} {vs : Array Value} (off : Nat) (hr : RVs g cs vs.toList) {x : TV} (hrd : rd n ag (cs.drop off) = some x) :
    ∃ v y, (part t vs off).run P w = .ok v w ∧ x = .v y ∧ RV g y v := by
  rcases rd_ok hrd (hr.drop off) with ⟨rfl, h1, h2, h3⟩ | ⟨rfl, a, u, r, h1, h2, h3, h4⟩
  · have e : vs.extract off (off + n) = ((vs.toList.drop off).take n).toArray := by
      apply Array.ext'
      simp [Array.toList_extract, List.take_drop, List.extract_eq_take_drop]
    refine ⟨_, _, ?_, h2, h3⟩
    simp [part, run_isAgg hag, run_sizeOf hn, e]
  · refine ⟨u, a, ?_, h3, h4⟩
    have : vs[off]? = some u := by simpa [List.getElem?_drop] using h2
    simp [part, run_isAgg hag, this]
theorem ok_fld {o : Oper} {t : TypeId} {fs : Array Field} {f : Nat} {fd : Field} {n : Nat} {ag : Bool} {x : Operand} {ax : AX} (ho : o.op = .field t x f) (hs : P.underlying t = some (.struct fs)) (hf : fs[f]? = some fd) (hn : szOf P fd.type = some n) (hag : agOf P fd.type = some ag)
    (h1 : cx x = some ax) {σ σ1 : St} {z : TV} {d : Nat} (he : evo d (.fld fd.offset n ag ax) σ = some (z, σ1)) : OkAt P o z σ σ1 := by
  simp only [evo] at he
  split at he
  · rename_i cs e1
    split at he
    · rename_i y hrd
      cases he
      refine .pure fun g0 h0 w0 g lb act w m T => ?_
      have hx := a_rv T h1 e1
      generalize hgx : act.eval x = vx at hx
      cases hx with
      | agg hl hh =>
        rename_i vs
        obtain ⟨v, y', h3, rfl, h4⟩ := run_part hn hag w (vs := vs) fd.offset (RV.agg_iff.1 (.agg hl hh)) hrd
        refine ⟨v, exec_v (s := Instr.field t (.agg vs) f) (by simp only [execOp, ho, hgx]) ?_, h4, fun k off e => by cases e⟩
        simp [Instr.field, run_underlying hs, hf, asAgg, h3]
    · cases he
  · cases he

theorem ok_ia {o : Oper} {t e : TypeId} {sz : Nat} {x i : Operand} {ax ai : AX} (ho : o.op = .indexAddr t x i) (ht : P.underlying t = some (.slice e)) (hsz : szOf P e = some sz) (h1 : cx x = some ax) (h2 : cx i = some ai) {σ σ1 : St} {z : TV} {d : Nat}
    (he : evo d (.ia sz ax ai) σ = some (z, σ1)) : OkAt P o z σ σ1 := by
  have run : ∀ {act : Act} {w : World} {b off n c : Nat} {k : IntKind} {m : Int}, act.eval x = .slice (some ⟨b, off, none⟩) n c → act.eval i = .int k m → 0 ≤ m → m.toNat < n →
      (execOp act.eval o).run P w = .ok (.value (.pointer (some ⟨b, off + m.toNat * sz, none⟩))) w := by
    intro act w b off n c k m hx hi h0 hlt
    refine exec_v (s := Instr.indexAt t (act.eval x) (act.eval i)) (by simp only [execOp, ho]) ?_
    rw [hx, hi]
    have : 0 ≤ m ∧ m < (n : Int) := ⟨h0, by omega⟩
    simp [Instr.indexAt, run_underlying ht, asIntOf, this, run_sizeOf hsz, Addr.add_lit]
  simp only [evo] at he
  split at he
  · rename_i k m e2
    split at he
    · rename_i es e1
      split at he
      · rename_i hm
        split at he
        · rename_i el hes
          split at he
          · rename_i hel
            cases he
            refine .pure fun g0 h0 w0 g lb act w mm T => ?_
            have hx := a_rv T h1 e1
            have hi := a_rv T h2 e2
            generalize hgx : act.eval x = vx at hx
            generalize hgi : act.eval i = vi at hi
            cases hi
            have hlt : m.toNat < es.length := (List.getElem?_eq_some_iff.1 hes).1
            cases hx with
            | sl0 A c => simp at hlt
            | sl f hl hn hnc hz hoo hf hr =>
              rename_i b off n c sz'
              have hs : sz' = sz := by rw [← hel]; exact (hz el (List.mem_of_getElem? hes)).symm
              subst hs
              refine ⟨_, run hgx hgi hm (by omega), ⟨b, off + m.toNat * sz', rfl, fun j => f (m.toNat * sz' + j), fun j a ha => ?_, fun j a ha => ?_⟩, fun k off e => by cases e⟩
              · rw [Nat.add_assoc]; exact hf _ a (flatten_at hz hes ha)
              · exact hr _ a (flatten_at hz hes ha)
          · cases he
        · cases he
      · cases he
    · rename_i id ver e1
      split at he
      · rename_i v0 sz' es hh
        split at he
        · rename_i hc
          obtain ⟨rfl, rfl, h0, hlt⟩ := hc
          cases he
          refine .pure fun g0 h0' w0 g lb act w mm T => ?_
          have hx := a_rv T h1 e1
          have hi := a_rv T h2 e2
          generalize hgx : act.eval x = vx at hx
          generalize hgi : act.eval i = vi at hi
          cases hi
          cases hx with
          | ol hd =>
            rename_i A n c
            rcases mm.sat.obj _ _ hh with ⟨h3, _⟩ | ⟨b, cap, c', t', l1, l2, h3, _⟩
            · subst h3; simp at hlt
            · rw [hd] at h3; cases h3
              exact ⟨_, run hgx hgi h0 hlt, ⟨b, _, _, hd, by simp⟩, fun k off e => by cases e⟩
        · cases he
      · cases he
    · cases he
  · cases he

/-! ### Look-ups in maps whose keys are whole numbers -/
theorem findNow_ok {g : G} {ik k : IntKind} {n : Int} : ∀ {es : List (AV × AV)} {ms : List MapEntry} (i : Nat), es.length = ms.length → (∀ (j : Nat) (p : AV × AV) (e : MapEntry), es[j]? = some p → ms[j]? = some e → RV g p.1 e.key) →
    keysI k es = true → ∀ {r : Option AV}, findI n es = some r →
    match r with
    | none => Instr.findNow (.int ik) (.int k n) ms i = some none
    | some v => ∃ j e p, Instr.findNow (.int ik) (.int k n) ms i = some (some (i + j, e.val)) ∧ ms[j]? = some e ∧ es[j]? = some p ∧ p.2 = v
  | [], [], i, _, _, _, r, h => by simp [findI] at h; subst h; rfl
  | [], _ :: _, i, hl, _, _, r, h => by simp at hl
  | _ :: _, [], i, hl, _, _, r, h => by simp at hl
  | (a, v) :: es, e :: ms, i, hl, hk, hki, r, h => by
    have h0 := hk 0 (a, v) e (by simp) (by simp)
    cases a <;> simp [keysI] at hki
    rename_i k' m
    obtain ⟨rfl, hki⟩ := hki
    generalize hke : e.key = ke at h0
    cases h0
    simp only [findI] at h
    by_cases hnm : n = m
    · rw [if_pos hnm] at h
      cases h
      subst hnm
      refine ⟨0, e, (.int k n, v), ?_, by simp, by simp, rfl⟩
      simp [Instr.findNow, Instr.sameNow, hke]
    · rw [if_neg hnm] at h
      have ih := findNow_ok (ik := ik) (i + 1) (by simpa using hl) (fun j p e' hp he' => hk (j + 1) p e' (by simpa using hp) (by simpa using he')) hki h
      have hstep : Instr.findNow (.int ik) (.int k n) (e :: ms) i = Instr.findNow (.int ik) (.int k n) ms (i + 1) := by
        have hb : (n == m) = false := by simpa using hnm
        simp [Instr.findNow, Instr.sameNow, hke, hb]
      cases r with
      | none => dsimp only at ih ⊢; rw [hstep]; exact ih
      | some v' =>
        dsimp only at ih ⊢
        obtain ⟨j, e', p, h1, h2, h3, h4⟩ := ih
        exact ⟨j + 1, e', p, by rw [hstep, h1]; congr 3; omega, by simpa using h2, by simpa using h3, h4⟩
theorem getMap {w : World} {b : Nat} {ms : Array MapEntry} {ck : Nat} (hb : w.heap[b]? = some (.map ms ck)) : (getObj b).run P w = .ok (.map ms ck) w := by simp [getObj, Sem.run, hb]
theorem run_checkKey {kt : TypeId} {ik : IntKind} (hk : P.underlying kt = some (.int ik)) (b : Bool) (k : IntKind) (n : Int) (w : World) : (Instr.checkKey b 10000 kt (.int k n)).run P w = .ok () w := by
  have key : ∀ d : Nat, (Instr.checkKey b (d + 1) kt (.int k n)).run P w = .ok () w := fun d => by simp [Instr.checkKey, run_underlying hk]
  exact key 9999

theorem ok_lk {o : Oper} {t kt et : TypeId} {ik : IntKind} {ok : Bool} {zv : AV} {x i : Operand} {ax ai : AX} (ho : o.op = .lookup t x i ok) (ht : P.underlying t = some (.map kt et)) (hk : P.underlying kt = some (.int ik))
    {inf : TypeInfo} {zval : Value} (hi : P.info? et = some inf) (hz : inf.zero = some zval) (hzv : ∀ g, RV g zv zval) (h1 : cx x = some ax) (h2 : cx i = some ai) {σ σ1 : St} {z : TV} {d : Nat}
    (he : evo d (.lk ok zv ax ai) σ = some (z, σ1)) : OkAt P o z σ σ1 := by
  simp only [evo] at he
  split at he
  · rename_i k n e2
    split at he
    · rename_i es hes
      split at he
      · rename_i hki
        have main : ∀ {g0 h0 w0 g lb} {act : Act} {w : World}, Mid g0 h0 w0 g lb σ.ls σ.h w → Tm g lb σ.ls σ.t act.tmps → ∃ (ms : Array MapEntry) (ck : Nat) (b : Nat), act.eval x = .map (some b) ∧ act.eval i = .int k n ∧ w.heap[b]? = some (.map ms ck) ∧ es.length = ms.size ∧
            (∀ (j : Nat) (p : AV × AV) (e : MapEntry), es[j]? = some p → ms[j]? = some e → RV g p.1 e.key) ∧ (∀ (j : Nat) (p : AV × AV) (e : MapEntry), es[j]? = some p → ms[j]? = some e → RV g p.2 e.val) := by
          intro g0 h0 w0 g lb act w mm T
          have hi := a_rv T h2 e2
          generalize hgi : act.eval i = vi at hi
          cases hi
          split at hes
          · rename_i es' e1
            cases hes
            have hx := a_rv T h1 e1
            generalize hgx : act.eval x = vx at hx
            cases hx with
            | fmap hb hl hk hv =>
              obtain ⟨ck, h3⟩ := mm.sat.fm _ _ hb
              exact ⟨_, ck, _, rfl, rfl, h3, hl, hk, hv⟩
          · rename_i id e1
            split at hes
            · rename_i es' hh
              cases hes
              have hx := a_rv T h1 e1
              generalize hgx : act.eval x = vx at hx
              cases hx with
              | mp hb =>
                obtain ⟨b', m', ck, h3, h4, h5, h6, h7⟩ := mm.sat.obj _ _ hh
                rw [hb] at h3; cases h3
                exact ⟨_, ck, _, rfl, rfl, h4, h5, h6, h7⟩
            · cases hes
          · cases hes
        have hzr : ∀ w : World, (zeroValue et).run P w = .ok zval w := fun w => by simp [zeroValue, typeInfo, hi, hz]
        split at he
        · rename_i v hf
          cases he
          refine ok_val fun g0 h0 w0 g lb act w mm T => ?_
          obtain ⟨ms, ck, b, hgx, hgi, hb, hl, hks, hvs⟩ := main mm T
          obtain ⟨j, e, p, h3, h4, h5, rfl⟩ := findNow_ok (ik := ik) 0 (ms := ms.toList) (by simpa using hl) (fun j p e hp he => hks j p e hp (by simpa using he)) hki hf
          have hv : RV g p.2 e.val := hvs j p e h5 (by simpa using h4)
          have hfk : (Instr.findKey kt (.int k n) ms.toList).run P w = .ok (some (0 + j, e.val)) w := by simp [Instr.findKey, run_underlying hk, h3]
          cases ok
          · refine ⟨e.val, exec_v (s := Instr.lookup t (.map (some b)) (.int k n) false) (by simp only [execOp, ho, hgx, hgi]) ?_, hv⟩
            simp [Instr.lookup, run_underlying ht, getMap hb, run_checkKey hk, hfk]
          · refine ⟨.tuple #[e.val, .bool true], exec_v (s := Instr.lookup t (.map (some b)) (.int k n) true) (by simp only [execOp, ho, hgx, hgi]) ?_, RV.tup_iff.2 (.cons hv (.cons (.bool _) (.nil g)))⟩
            simp [Instr.lookup, run_underlying ht, getMap hb, run_checkKey hk, hfk]
        · rename_i hf
          cases he
          refine ok_val fun g0 h0 w0 g lb act w mm T => ?_
          obtain ⟨ms, ck, b, hgx, hgi, hb, hl, hks, hvs⟩ := main mm T
          have h3 := findNow_ok (ik := ik) 0 (ms := ms.toList) (by simpa using hl) (fun j p e hp he => hks j p e hp (by simpa using he)) hki hf
          dsimp only at h3
          have hfk : (Instr.findKey kt (.int k n) ms.toList).run P w = .ok none w := by simp [Instr.findKey, run_underlying hk, h3]
          cases ok
          · refine ⟨zval, exec_v (s := Instr.lookup t (.map (some b)) (.int k n) false) (by simp only [execOp, ho, hgx, hgi]) ?_, hzv g⟩
            simp [Instr.lookup, run_underlying ht, getMap hb, run_checkKey hk, hfk, hzr]
          · refine ⟨.tuple #[zval, .bool false], exec_v (s := Instr.lookup t (.map (some b)) (.int k n) true) (by simp only [execOp, ho, hgx, hgi]) ?_, RV.tup_iff.2 (.cons (hzv g) (.cons (.bool _) (.nil g)))⟩
            simp [Instr.lookup, run_underlying ht, getMap hb, run_checkKey hk, hfk, hzr]
        · cases he
      · cases he
    · cases he
  · cases he

theorem ok_ext {o : Oper} {x : Operand} {ax : AX} {i : Nat} (ho : o.op = .extract x i) (h1 : cx x = some ax) {σ σ1 : St} {z : TV} {d : Nat} (he : evo d (.ext ax i) σ = some (z, σ1)) : OkAt P o z σ σ1 := by
  simp only [evo] at he
  split at he
  · rename_i vs e1
    split at he
    · rename_i a hva
      cases he
      refine ok_val fun g0 h0 w0 g lb act w m T => ?_
      have hx := a_rv T h1 e1
      generalize hgx : act.eval x = vx at hx
      cases hx with
      | tup hl hh =>
        rename_i us
        have hi : i < us.size := by have := (List.getElem?_eq_some_iff.1 hva).1; omega
        have hu : us[i]? = some us[i] := by simp [hi]
        exact ⟨us[i], by simp [execOp, ho, hgx, Instr.extract, hi], hh i a _ hva hu⟩
    · cases he
  · cases he
theorem ok_mkf {o : Oper} {fn : Fn} {first cap : Array Operand} {a1 a2 : List AX} (ho : o.op = .makeFunc fn first cap) (h1 : cxs first.toList = some a1) (h2 : cxs cap.toList = some a2) {σ σ1 : St} {z : TV} {d : Nat} (he : evo d (.mkf fn a1 a2) σ = some (z, σ1)) : OkAt P o z σ σ1 := by
  simp only [evo] at he
  split at he
  · rename_i l1 l2 e1 e2
    cases he
    refine ok_val fun g0 h0 w0 g lb act w m T => ?_
    have hx := as_rvs T h1 e1
    have hy := as_rvs T h2 e2
    refine ⟨.func fn (first.map act.eval) (cap.map act.eval), by simp [execOp, ho, Instr.makeFunc], .fn (by simpa using hx.1) (by simpa using hy.1) (fun i a v ha hv => hx.2 i a v ha (by simpa using hv)) (fun i a v ha hv => hy.2 i a v ha (by simpa using hv))⟩
  · cases he
theorem ok_ifc {o : Oper} {t : TypeId} {x : Operand} {ax : AX} (ho : o.op = .makeInterface t x) (ht : P.concrete t = true) (h1 : cx x = some ax) {σ σ1 : St} {z : TV} {d : Nat} (he : evo d (.ifc t ax) σ = some (z, σ1)) : OkAt P o z σ σ1 := by
  simp only [evo] at he
  split at he
  · rename_i a e1
    cases he
    refine ok_val fun g0 h0 w0 g lb act w m T => ?_
    have hx := a_rv T h1 e1
    exact ⟨.iface t (act.eval x), exec_v (s := Instr.makeInterface t (act.eval x)) (by simp only [execOp, ho]) (run_makeInterface w t _ ht), .iface hx⟩
  · cases he
end Go.Ab
