/- Readers of bytes, levels, terms. Conditions: none. -/
import Derived.Test.YtnkblnmcabfbmaaClB
import Derived.Test.YtnkblnmcabfbmaaTm
import Derived.Test.YtnkblnmcabfbmaaChecked
set_option linter.unusedVariables false
set_option linter.unusedSimpArgs false
set_option maxRecDepth 100000
namespace Go.Ab
open Go.RowKit Go.ChangeShapes Go.Proofs

section
variable {H : Type} {enc : TypeId × Value → H} {P : Program} {w : World}
theorem weightsEach_at {ts : List TypeId} {ds : List (DataW H)} (h : (DataW.weightsEach P ts ds).all (· ≤ reachBytes) = true) : ∀ (i : Nat) (t : TypeId) (d : DataW H), ts[i]? = some t → ds[i]? = some d → (d.weights P t).all (· ≤ reachBytes) = true := by
  induction ts generalizing ds with
  | nil => intro i t d ht; simp at ht
  | cons t ts ih =>
    cases ds with
    | nil => intro i t d _ hd; simp at hd
    | cons d ds =>
      rw [DataW.weightsEach] at h
      obtain ⟨h1, h2⟩ := all_append' h
      intro i t' d' ht hd
      cases i with
      | zero => simp at ht hd; subst ht; subst hd; exact h1
      | succ i => exact ih h2 i t' d' (by simpa using ht) (by simpa using hd)
theorem rd_fields {t : TypeId} {fs : Array Field} (ht : P.underlying t = some (.struct fs)) (hsz : P.cellsOf t = fs.size) (ho : ∀ (i : Nat) (f : Field), fs[i]? = some f → f.offset = i ∧ P.cellsOf f.type = 1) {fuel : Nat} {cs : List Value} {x : DataW H × List MemPlace}
    (h : DataW.trod enc P w 0 (fun _ => true) true fuel t cs = some x) (hw : (x.1.weights P t).all (· ≤ reachBytes) = true) :
    ∃ n, fuel = n + 1 ∧ cs.length = fs.size ∧ ∀ (i : Nat) (f : Field) (c : Value), fs[i]? = some f → cs[i]? = some c → ∃ y, DataW.trod enc P w 0 (fun _ => true) true n f.type [c] = some y ∧ (y.1.weights P f.type).all (· ≤ reachBytes) = true := by
  obtain ⟨xs, n, rfl, rfl, hl, hxl, hget⟩ := DataW.trod_struct ht h
  refine ⟨n, rfl, by omega, fun i f c hf hc => ?_⟩
  obtain ⟨h1, h2⟩ := ho i f hf
  have hi : i < fs.size := (Array.getElem?_eq_some_iff.1 hf).1
  have hy : xs[i]? = some xs[i] := List.getElem?_eq_getElem (by omega)
  have h3 := hget i f hf
  rw [h1, h2, hy] at h3
  have h4 : (cs.drop i).take 1 = [c] := by
    have hil : i < cs.length := by omega
    rw [List.drop_eq_getElem_cons hil]
    have := List.getElem?_eq_getElem hil
    rw [hc] at this
    injection this with this
    rw [this, List.take_succ_cons, List.take_zero]
  rw [h4] at h3
  refine ⟨_, h3, ?_⟩
  rw [DataW.weights] at hw
  simp only [ht] at hw
  exact weightsEach_at hw i f.type _ (by simp [hf]) (by rw [List.getElem?_map, hy]; rfl)
end

section
variable {H : Type} {enc : TypeId × Value → H} {w : World}
theorem cells_int : Try.prog.cellsOf 3 = 1 := by kernel_rfl
theorem cells_u8 : Try.prog.cellsOf 5 = 1 := by kernel_rfl
theorem cells_lv : Try.prog.cellsOf 28 = 3 := by kernel_rfl
theorem cells_lvs : Try.prog.cellsOf 26 = 1 := by kernel_rfl
theorem cells_te : Try.prog.cellsOf 46 = 4 := by kernel_rfl
theorem cells_tes : Try.prog.cellsOf 44 = 1 := by kernel_rfl
theorem cells_u8s : Try.prog.cellsOf 22 = 1 := by kernel_rfl
theorem bytes_u8 : 1 ≤ Try.prog.bytesOf 5 := of_decide_eq_true (by kernel_rfl)
theorem bytes_lv : 1 ≤ Try.prog.bytesOf 28 := of_decide_eq_true (by kernel_rfl)
theorem bytes_te : 1 ≤ Try.prog.bytesOf 46 := of_decide_eq_true (by kernel_rfl)
theorem bytes_u8s : 1 ≤ Try.prog.bytesOf 22 := of_decide_eq_true (by kernel_rfl)

theorem mono_wf {n : Int} (h : (Lit.int .u8 n).wf = true) : 0 ≤ n ∧ n < 256 := by
  simp [Lit.wf, IntKind.min, IntKind.max, IntKind.bits, IntKind.signed] at h
  omega
theorem mono_w16 {n : Int} (h : (Lit.int .u16 n).wf = true) : 0 ≤ n ∧ n < 65536 := by
  simp [Lit.wf, IntKind.min, IntKind.max, IntKind.bits, IntKind.signed] at h
  omega
theorem rd_u8s (fuel : Nat) : RdN enc Try.prog w 22 (fun L : List Int => [.sl (u8s L)]) (fun L => L.length ≤ 140737488355328 ∧ BytesOk L) fuel := by
  intro cs x hx hw
  obtain ⟨L, ⟨h1, h2⟩, h3⟩ := rd_slice (e := fun n : Int => [AV.int .u8 n]) (Q := fun n => (Lit.int .u8 n).wf = true) Try.underlying22 cells_u8 (by omega) bytes_u8 (fun _ => rfl) (fun a c hc => by simp at hc; subst hc; rfl) (fuel := fuel) (fun m _ => rd_int Try.underlying5 m) cs x hx hw
  exact ⟨L, ⟨h1, fun b hb => mono_wf (h2 b hb)⟩, h3⟩
theorem rd_u8ss (fuel : Nat) : RdN enc Try.prog w 23 (fun L : List (List Int) => [.sl (L.map fun l => [.sl (u8s l)])]) (fun L => L.length ≤ 140737488355328 ∧ ∀ l ∈ L, l.length ≤ 140737488355328 ∧ BytesOk l) fuel :=
  rd_slice Try.underlying23 cells_u8s (by omega) bytes_u8s (fun _ => rfl) (fun a c hc => by simp at hc; subst hc; rfl) (fun m _ => rd_u8s m)

theorem fld3 {fs : Array Field} {f0 f1 f2 : Field} (h : fs = #[f0, f1, f2]) {p : Nat → Field → Prop} (h0 : p 0 f0) (h1 : p 1 f1) (h2 : p 2 f2) : ∀ (i : Nat) (f : Field), fs[i]? = some f → p i f := by
  subst h
  intro i f hf
  match i, hf with
  | 0, hf => simp at hf; subst hf; exact h0
  | 1, hf => simp at hf; subst hf; exact h1
  | 2, hf => simp at hf; subst hf; exact h2
theorem fld4 {fs : Array Field} {f0 f1 f2 f3 : Field} (h : fs = #[f0, f1, f2, f3]) {p : Nat → Field → Prop} (h0 : p 0 f0) (h1 : p 1 f1) (h2 : p 2 f2) (h3 : p 3 f3) : ∀ (i : Nat) (f : Field), fs[i]? = some f → p i f := by
  subst h
  intro i f hf
  match i, hf with
  | 0, hf => simp at hf; subst hf; exact h0
  | 1, hf => simp at hf; subst hf; exact h1
  | 2, hf => simp at hf; subst hf; exact h2
  | 3, hf => simp at hf; subst hf; exact h3
theorem rvs_one {g : G} {a : AV} {c : Value} (h : RVs g [a] [c]) : RV g a c := h.2 0 a c rfl rfl

theorem rd_lv (fuel : Nat) : RdN enc Try.prog w 28 Lv.cs Lv.ok fuel := by
  induction fuel using Nat.strongRecOn with
  | _ fuel ih =>
  intro cs x hx hw
  obtain ⟨n, rfl, hl, hf⟩ := rd_fields Try.underlying28 cells_lv (fld3 rfl ⟨rfl, cells_int⟩ ⟨rfl, cells_int⟩ ⟨rfl, cells_lvs⟩) hx hw
  have hl : cs.length = 3 := hl
  match cs, hl with
  | [c0, c1, c2], _ =>
    obtain ⟨y0, a0, b0⟩ := hf 0 _ c0 rfl rfl
    obtain ⟨y1, a1, b1⟩ := hf 1 _ c1 rfl rfl
    obtain ⟨y2, a2, b2⟩ := hf 2 _ c2 rfl rfl
    obtain ⟨k, _, hk⟩ := rd_int Try.underlying3 n [c0] y0 a0 b0
    obtain ⟨m, _, hm⟩ := rd_int Try.underlying3 n [c1] y1 a1 b1
    obtain ⟨l, ⟨h1, h2⟩, hl⟩ := rd_slice (sz := 3) Try.underlying26 cells_lv (by omega) bytes_lv cs_len (fun a c hc => List.all_eq_true.1 (cs_one a) c hc) (fuel := n) (fun m hm => ih m (by omega)) [c2] y2 a2 b2
    refine ⟨.mk k m l, .mk h1 h2, ?_⟩
    rw [Lv.cs, Lv.css_eq]
    exact .cons (rvs_one hk) (.cons (rvs_one hm) hl)
theorem rd_te (fuel : Nat) : RdN enc Try.prog w 46 Te.cs Te.ok fuel := by
  induction fuel using Nat.strongRecOn with
  | _ fuel ih =>
  intro cs x hx hw
  obtain ⟨n, rfl, hl, hf⟩ := rd_fields Try.underlying46 cells_te (fld4 rfl ⟨rfl, cells_int⟩ ⟨rfl, cells_int⟩ ⟨rfl, cells_lvs⟩ ⟨rfl, cells_tes⟩) hx hw
  have hl : cs.length = 4 := hl
  match cs, hl with
  | [c0, c1, c2, c3], _ =>
    obtain ⟨y0, a0, b0⟩ := hf 0 _ c0 rfl rfl
    obtain ⟨y1, a1, b1⟩ := hf 1 _ c1 rfl rfl
    obtain ⟨y2, a2, b2⟩ := hf 2 _ c2 rfl rfl
    obtain ⟨y3, a3, b3⟩ := hf 3 _ c3 rfl rfl
    obtain ⟨k, _, hk⟩ := rd_int Try.underlying3 n [c0] y0 a0 b0
    obtain ⟨m, _, hm⟩ := rd_int Try.underlying3 n [c1] y1 a1 b1
    obtain ⟨ls, ⟨h1, h2⟩, hls⟩ := rd_slice (sz := 3) Try.underlying26 cells_lv (by omega) bytes_lv cs_len (fun a c hc => List.all_eq_true.1 (cs_one a) c hc) (fuel := n) (fun m hm => rd_lv m) [c2] y2 a2 b2
    obtain ⟨l, ⟨h3, h4⟩, hl⟩ := rd_slice (sz := 4) Try.underlying44 cells_te (by omega) bytes_te tcs_len (fun a c hc => List.all_eq_true.1 (tcs_one a) c hc) (fuel := n) (fun m hm => ih m (by omega)) [c3] y3 a3 b3
    refine ⟨.mk k m ls l, .mk h3 h1 h2 h4, ?_⟩
    rw [Te.cs, Te.css_eq, Lv.css_eq]
    exact .cons (rvs_one hk) (.cons (rvs_one hm) (.cons (rvs_one hls) hl))
end

/-! Arguments: one at a time -/
section
variable {H : Type} {enc : TypeId × Value → H} {P : Program} {W : World} {r : Reach} {base : Nat} {t : TypeId} {v : Value} {d : DataW H} {p : List MemPlace}
theorem arg_int {k : IntKind} (ht : P.underlying t = some (.int k)) (hv : Value.okWide P W r base t v) (h : DataW.Trod enc P W 0 (fun _ => true) true t v d p) : ∃ n, (Lit.int k n).wf = true ∧ RV (gAll P W) (.int k n) v := by
  obtain ⟨n, rfl, _, _, hw⟩ := open_int ht hv h
  exact ⟨n, hw, .int k n⟩
theorem arg_bool (ht : P.underlying t = some .bool) (hv : Value.okWide P W r base t v) (h : DataW.Trod enc P W 0 (fun _ => true) true t v d p) : ∃ b, RV (gAll P W) (.bool b) v := by
  obtain ⟨b, rfl, _, _⟩ := open_bool ht hv h
  exact ⟨b, .bool b⟩
theorem arg_slice {u : TypeId} (ht : P.underlying t = some (.slice u)) {α : Type} {e : α → AV} {Q : α → Prop} (hr : ∀ n, RdN enc P W t (fun a => [e a]) Q n) (hv : Value.okWide P W r base t v) (h : DataW.Trod enc P W 0 (fun _ => true) true t v d p) (hw : (d.weights P t).all (· ≤ reachBytes) = true) :
    ∃ a, Q a ∧ RV (gAll P W) (e a) v := by
  obtain ⟨fuel, hf⟩ := h
  obtain ⟨a, h1, h2⟩ := hr fuel _ _ hf hw
  refine ⟨a, h1, ?_⟩
  have hc : v.cells.toList = [v] := by
    unfold Value.okWide at hv
    rw [ht] at hv
    simp only [Cell.okWide, ht, Cell.ok] at hv
    split at hv <;> first | rfl | exact hv.elim
  rw [hc] at h2
  exact rvs_one h2
theorem arg_struct {fs : Array Field} (ht : P.underlying t = some (.struct fs)) {α : Type} {e : α → List AV} {Q : α → Prop} (hr : ∀ n, RdN enc P W t e Q n) (hv : Value.okWide P W r base t v) (h : DataW.Trod enc P W 0 (fun _ => true) true t v d p) (hw : (d.weights P t).all (· ≤ reachBytes) = true) :
    ∃ a, Q a ∧ RV (gAll P W) (.agg (e a)) v := by
  obtain ⟨fuel, hf⟩ := h
  obtain ⟨a, h1, h2⟩ := hr fuel _ _ hf hw
  unfold Value.okWide at hv
  rw [ht] at hv
  obtain ⟨cs, rfl, _⟩ := hv
  exact ⟨a, h1, RV.agg_iff.2 h2⟩
end

section
open Go.ChangeShapes
variable {H : Type} {enc : TypeId × Value → H} {P : Program} {w : World} {base : Nat} {spare : Nat → Bool} {held : Bool}
theorem trodAll_five {t0 t1 t2 t3 t4 : TypeId} {args : Array Value} {ds : List (DataW H)} {ps : List MemPlace} (h : DataW.TrodAll enc P w base spare held [t0, t1, t2, t3, t4] args.toList ds ps) :
    ∃ v0 v1 v2 v3 v4 d0 d1 d2 d3 d4 p0 p1 p2 p3 p4, args = #[v0, v1, v2, v3, v4] ∧ ds = [d0, d1, d2, d3, d4] ∧ ps = p0 ++ p1 ++ p2 ++ p3 ++ p4 ∧ DataW.Trod enc P w base spare held t0 v0 d0 p0 ∧ DataW.Trod enc P w base spare held t1 v1 d1 p1 ∧ DataW.Trod enc P w base spare held t2 v2 d2 p2 ∧ DataW.Trod enc P w base spare held t3 v3 d3 p3 ∧ DataW.Trod enc P w base spare held t4 v4 d4 p4 := by
  obtain ⟨v0, vs0, d0, ds0, p0, q0, hargs, rfl, rfl, h0, k0⟩ := trodAll_cons h
  obtain ⟨v1, vs1, d1, ds1, p1, q1, rfl, rfl, rfl, h1, k1⟩ := trodAll_cons k0
  obtain ⟨v2, vs2, d2, ds2, p2, q2, rfl, rfl, rfl, h2, k2⟩ := trodAll_cons k1
  obtain ⟨v3, vs3, d3, ds3, p3, q3, rfl, rfl, rfl, h3, k3⟩ := trodAll_cons k2
  obtain ⟨v4, vs4, d4, ds4, p4, q4, rfl, rfl, rfl, h4, k4⟩ := trodAll_cons k3
  obtain ⟨rfl, rfl, rfl⟩ := trodAll_nil k4
  exact ⟨v0, v1, v2, v3, v4, d0, d1, d2, d3, d4, p0, p1, p2, p3, p4, by cases args; simp_all, rfl, by simp, h0, h1, h2, h3, h4⟩
theorem trodAll_six {t0 t1 t2 t3 t4 t5 : TypeId} {args : Array Value} {ds : List (DataW H)} {ps : List MemPlace} (h : DataW.TrodAll enc P w base spare held [t0, t1, t2, t3, t4, t5] args.toList ds ps) :
    ∃ v0 v1 v2 v3 v4 v5 d0 d1 d2 d3 d4 d5 p0 p1 p2 p3 p4 p5, args = #[v0, v1, v2, v3, v4, v5] ∧ ds = [d0, d1, d2, d3, d4, d5] ∧ ps = p0 ++ p1 ++ p2 ++ p3 ++ p4 ++ p5 ∧ DataW.Trod enc P w base spare held t0 v0 d0 p0 ∧ DataW.Trod enc P w base spare held t1 v1 d1 p1 ∧ DataW.Trod enc P w base spare held t2 v2 d2 p2 ∧ DataW.Trod enc P w base spare held t3 v3 d3 p3 ∧ DataW.Trod enc P w base spare held t4 v4 d4 p4 ∧ DataW.Trod enc P w base spare held t5 v5 d5 p5 := by
  obtain ⟨v0, vs0, d0, ds0, p0, q0, hargs, rfl, rfl, h0, k0⟩ := trodAll_cons h
  obtain ⟨v1, vs1, d1, ds1, p1, q1, rfl, rfl, rfl, h1, k1⟩ := trodAll_cons k0
  obtain ⟨v2, vs2, d2, ds2, p2, q2, rfl, rfl, rfl, h2, k2⟩ := trodAll_cons k1
  obtain ⟨v3, vs3, d3, ds3, p3, q3, rfl, rfl, rfl, h3, k3⟩ := trodAll_cons k2
  obtain ⟨v4, vs4, d4, ds4, p4, q4, rfl, rfl, rfl, h4, k4⟩ := trodAll_cons k3
  obtain ⟨v5, vs5, d5, ds5, p5, q5, rfl, rfl, rfl, h5, k5⟩ := trodAll_cons k4
  obtain ⟨rfl, rfl, rfl⟩ := trodAll_nil k5
  exact ⟨v0, v1, v2, v3, v4, v5, d0, d1, d2, d3, d4, d5, p0, p1, p2, p3, p4, p5, by cases args; simp_all, rfl, by simp, h0, h1, h2, h3, h4, h5⟩
theorem trodAll_seven {t0 t1 t2 t3 t4 t5 t6 : TypeId} {args : Array Value} {ds : List (DataW H)} {ps : List MemPlace} (h : DataW.TrodAll enc P w base spare held [t0, t1, t2, t3, t4, t5, t6] args.toList ds ps) :
    ∃ v0 v1 v2 v3 v4 v5 v6 d0 d1 d2 d3 d4 d5 d6 p0 p1 p2 p3 p4 p5 p6, args = #[v0, v1, v2, v3, v4, v5, v6] ∧ ds = [d0, d1, d2, d3, d4, d5, d6] ∧ ps = p0 ++ p1 ++ p2 ++ p3 ++ p4 ++ p5 ++ p6 ∧ DataW.Trod enc P w base spare held t0 v0 d0 p0 ∧ DataW.Trod enc P w base spare held t1 v1 d1 p1 ∧ DataW.Trod enc P w base spare held t2 v2 d2 p2 ∧ DataW.Trod enc P w base spare held t3 v3 d3 p3 ∧ DataW.Trod enc P w base spare held t4 v4 d4 p4 ∧ DataW.Trod enc P w base spare held t5 v5 d5 p5 ∧ DataW.Trod enc P w base spare held t6 v6 d6 p6 := by
  obtain ⟨v0, vs0, d0, ds0, p0, q0, hargs, rfl, rfl, h0, k0⟩ := trodAll_cons h
  obtain ⟨v1, vs1, d1, ds1, p1, q1, rfl, rfl, rfl, h1, k1⟩ := trodAll_cons k0
  obtain ⟨v2, vs2, d2, ds2, p2, q2, rfl, rfl, rfl, h2, k2⟩ := trodAll_cons k1
  obtain ⟨v3, vs3, d3, ds3, p3, q3, rfl, rfl, rfl, h3, k3⟩ := trodAll_cons k2
  obtain ⟨v4, vs4, d4, ds4, p4, q4, rfl, rfl, rfl, h4, k4⟩ := trodAll_cons k3
  obtain ⟨v5, vs5, d5, ds5, p5, q5, rfl, rfl, rfl, h5, k5⟩ := trodAll_cons k4
  obtain ⟨v6, vs6, d6, ds6, p6, q6, rfl, rfl, rfl, h6, k6⟩ := trodAll_cons k5
  obtain ⟨rfl, rfl, rfl⟩ := trodAll_nil k6
  exact ⟨v0, v1, v2, v3, v4, v5, v6, d0, d1, d2, d3, d4, d5, d6, p0, p1, p2, p3, p4, p5, p6, by cases args; simp_all, rfl, by simp, h0, h1, h2, h3, h4, h5, h6⟩
end
end Go.Ab
