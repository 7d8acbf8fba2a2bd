/- TableOne: the row, for every input. Conditions: none. -/
import Derived.Test.YtfhfkfnffajciaaRows
import Derived.Test.YtfhfkfnffajciaaOne
import Derived.Test.YtfhfkfnffajciaaRead
namespace Go.Proofs.Ytfhfkfnffajciaa
/-- rows that are each some thing's cells are the cells of a list of things -/
theorem rows_map {α : Type} (f : α → List Value) (p : α → Prop) : ∀ (rows : List (List Value)), (∀ r ∈ rows, ∃ x, r = f x ∧ p x) → ∃ xs : List α, rows = xs.map f ∧ ∀ x ∈ xs, p x
  | [], _ => ⟨[], rfl, fun _ h => by cases h⟩
  | r :: rows, h => by
    obtain ⟨x, h1, h2⟩ := h r List.mem_cons_self
    obtain ⟨xs, h3, h4⟩ := rows_map f p rows fun r hr => h r (List.mem_cons_of_mem _ hr)
    exact ⟨x :: xs, by rw [h1, h3]; rfl, fun y hy => by
      rcases List.mem_cons.1 hy with rfl | hy
      · exact h2
      · exact h4 y hy⟩
theorem act_of_oks {r : List Value} (ok : Oks [.int .i64, .int .i64, .int .i64, .bool, .int .u16, .str, .int .i64, .int .i64, .int .i64, .int .i64] r) : ∃ x : Act12, r = x.cells ∧ (x.key.name.size : Int) ≤ 9223372036854775807 := by
  obtain ⟨v1, c1, rfl, o1, k1⟩ := ok.cons
  obtain ⟨kd, rfl, _⟩ := o1.int
  obtain ⟨v2, c2, rfl, o2, k2⟩ := k1.cons
  obtain ⟨rn, rfl, _⟩ := o2.int
  obtain ⟨v3, c3, rfl, o3, k3⟩ := k2.cons
  obtain ⟨cl, rfl, _⟩ := o3.int
  obtain ⟨v4, c4, rfl, o4, k4⟩ := k3.cons
  obtain ⟨rf, rfl⟩ := o4.bool
  obtain ⟨v5, c5, rfl, o5, k5⟩ := k4.cons
  obtain ⟨sp, rfl, _⟩ := o5.int
  obtain ⟨v6, c6, rfl, o6, k6⟩ := k5.cons
  obtain ⟨nm, rfl, hnm⟩ := o6.str
  obtain ⟨v7, c7, rfl, o7, k7⟩ := k6.cons
  obtain ⟨va, rfl, _⟩ := o7.int
  obtain ⟨v8, c8, rfl, o8, k8⟩ := k7.cons
  obtain ⟨fk, rfl, _⟩ := o8.int
  obtain ⟨v9, c9, rfl, o9, k9⟩ := k8.cons
  obtain ⟨fc, rfl, _⟩ := o9.int
  obtain ⟨v10, c10, rfl, o10, k10⟩ := k9.cons
  obtain ⟨fr, rfl, _⟩ := o10.int
  obtain rfl := k10.nil
  refine ⟨⟨kd, rn, cl, rf, ⟨sp, nm⟩, ⟨va, ⟨fk, fc, fr⟩⟩⟩, rfl, ?_⟩
  unfold maxLen at hnm
  show (nm.size : Int) ≤ _
  omega
end Go.Proofs.Ytfhfkfnffajciaa
namespace Go.Proofs.Ytfhfkfnffajciaa.tableOne
open Go.ChangeShapes Go.WideShapes Go.ChangeAt Go.RowKit
theorem own : ownKnob Try.prog.godebug = none := by kernel_rfl
theorem laidOut : laidOutB Try.prog = true := by kernel_rfl
theorem cellsAct : Try.prog.cellsOf 37 = 10 := by kernel_rfl
theorem bytesAct : Try.prog.bytesOf 37 = 88 := by kernel_rfl
set_option maxRecDepth 100000 in
set_option maxHeartbeats 1000000 in
theorem lifted (os : Os) (started : os.Started) (H : Type) (enc : TypeId × Value → H) :
    ReturnsInHanded {} Try.checked os 3 .any (Rows.tableOneSpec.pre6 enc Try.prog Try.f3 Rows.tableOneRow.domain false) (Rows.tableOneSpec.post enc Try.prog Try.f3 false true false false) := by
  refine returnsInHanded_of_change_sized (C := Try.checked) own started (by kernel_rfl) Try.func3
    (ChangeSpec.witness6 (enc := enc) (C := Try.checked) false ⟨#[], #[.int .i64 0, .slice none 0 0], []⟩ 8 (by kernel_rfl) (by kernel_rfl) (by kernel_rfl) (by kernel_rfl)) ?_
  intro W base args ds gs before hval0 hW hcnd hsz0 _
  have hsz : (DataW.weightsEach Try.prog (Try.f3.params.toList ++ Rows.tableOneSpec.plain.varTypes Try.prog) (ds ++ gs)).all (· ≤ reachBytes) = true := hsz0
  clear hsz0
  have hval : ∀ (j : Nat) t v, Try.f3.params[j]? = some t → args[j]? = some v → Value.okWide Try.prog W .any base t v := hval0
  have hW' := hW
  obtain ⟨p, q, hA0, hV, rfl, hfz, hnd⟩ := hW
  have hA : DataW.TrodAll enc Try.prog W 0 (fun _ => true) true Try.f3.params.toList args.toList ds p := hA0
  rw [Try.params3] at hA hval hsz
  obtain ⟨v0, vs0, d0, ds0, p0, q0, hargs, rfl, rfl, h0, r0⟩ := trodAll_cons hA
  obtain ⟨v1, vs1, d1, ds1, p1, q1, rfl, rfl, rfl, h1, r1⟩ := trodAll_cons r0
  obtain ⟨rfl, rfl, rfl⟩ := trodAll_nil r1
  obtain rfl : args = #[v0, v1] := by cases args; simp_all
  obtain ⟨rfl, rfl⟩ := trodVars_none hV
  have lt0 : ∀ x ∈ p0, x.block < W.heap.size := by obtain ⟨m, hm⟩ := h0; exact DataW.trod_lt m _ _ _ hm
  have lt1 : ∀ x ∈ p1, x.block < W.heap.size := by obtain ⟨m, hm⟩ := h1; exact DataW.trod_lt m _ _ _ hm
  obtain ⟨fl, rfl⟩ := okWide_int Try.underlying3 (hval 0 3 v0 rfl rfl)
  obtain ⟨ad, len, cap, rfl⟩ := okWide_slice Try.underlying22 (hval 1 22 v1 rfl rfl)
  have fin : ∀ e W', e = Ending.returned (.bool true) ∧ Below W.heap.size W W' → ∃ v, e = Ending.returned v ∧ Rows.tableOneSpec.post enc Try.prog Try.f3 false true false false W #[.int .i64 fl, .slice ad len cap] v W' := by
    rintro e W' ⟨rfl, bel⟩
    exact ⟨_, rfl, _, _, _, [], _, [], hW', trodAll_mk1 (shut_bool Try.underlying4 _), trodAll_cons_mk (Below.trod laidOut (by kernel_rfl) (of_decide_eq_true (by kernel_rfl)) h0 bel lt0) (trodAll_cons_mk (Below.trod laidOut (by kernel_rfl) (of_decide_eq_true (by kernel_rfl)) h1 bel lt1) trodAll_mk0), rfl, bel.frame _, fun h => by cases h⟩
  rcases rows_of_Trod (n := 6) (l := [.int .i64, .int .i64, .int .i64, .bool, .int .u16, .str, .int .i64, .int .i64, .int .i64, .int .i64]) Try.underlying22 (by kernel_rfl) cellsAct h1 with ⟨rfl, rfl, rfl⟩ | ⟨a, rfl, hlc, hcm, rows, hrl, hok, hcell, es, sp, rfl, hes⟩
  · exact (TableOne_walk fl none 0 0 [] rfl (by unfold NOk; omega) (fun h => by omega) (fun x h => by cases h)).mono fin
  · have hb := sized_slice hsz (j := 1) (t := 22) (e := 37) rfl rfl Try.underlying22
    rw [bytesAct, hes, reachBytes] at hb
    obtain ⟨acts, rfl, hacts⟩ := rows_map Act12.cells (fun x => (x.key.name.size : Int) ≤ 9223372036854775807) rows fun r hr => act_of_oks (hok r hr)
    rw [List.length_map] at hrl
    refine (TableOne_walk fl (some a) len cap acts hrl (by unfold NOk; omega) (fun hlen => ?_) hacts).mono fin
    obtain ⟨b, o, spot⟩ := a
    obtain ⟨x, hx⟩ : ∃ x, acts[0]? = some x := ⟨_, List.getElem?_eq_getElem (by omega)⟩
    have hspot : spot = none := by
      have := hcell 0 x.cells (by simp [hx]) 0 _ rfl
      simpa [Addr.add] using World.cell?_spot this
    subst hspot
    refine ⟨b, o, rfl, fun i y hy j v hj => ?_⟩
    have := hcell i y.cells (by simp [hy]) j v hj
    rw [add_flat, ← Nat.add_assoc] at this
    exact this
theorem over : Rows.tableOneRow.holds Try.pinned (OpenSpec.ofChange Rows.tableOneSpec) :=
  OpenClaim.holds_of_wide 3 Try.f3 rfl rfl rfl rfl rfl rfl rfl ⟨rfl, rfl, rfl, rfl, rfl⟩ rfl rfl rfl rfl rfl (by kernel_rfl) Try.func3 (by kernel_rfl)
    (of_decide_eq_true (by kernel_rfl)) (by unfold Func.isWrapper; first | (rw [if_pos (by decide +kernel)]; kernel_rfl) | (rw [if_neg (by decide +kernel)]; exact ⟨rfl, rfl⟩))
    (fun os started H enc _ => lifted os started H enc)
theorem proved : Rows.TableOneSaid := over
#print axioms proved
end Go.Proofs.Ytfhfkfnffajciaa.tableOne
