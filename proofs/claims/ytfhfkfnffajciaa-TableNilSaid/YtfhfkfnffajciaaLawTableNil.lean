/- TableNil: the row, for every input. Conditions: none. -/
import Derived.Test.YtfhfkfnffajciaaRows
import Derived.Test.YtfhfkfnffajciaaTnil
import Derived.Test.YtfhfkfnffajciaaRead
namespace Go.Proofs.Ytfhfkfnffajciaa.tableNil
open Go.ChangeShapes Go.WideShapes Go.ChangeAt Go.RowKit
open Go.ChangeMaps (open_string shut_string)
theorem own : ownKnob Try.prog.godebug = none := by kernel_rfl
theorem laidOut : laidOutB Try.prog = true := by kernel_rfl
set_option maxRecDepth 100000 in
set_option maxHeartbeats 1000000 in
theorem lifted (os : Os) (started : os.Started) (H : Type) (enc : TypeId × Value → H) :
    ReturnsInHanded {} Try.checked os 4 .any (Rows.tableNilSpec.pre6 enc Try.prog Try.f4 Rows.tableNilRow.domain false) (Rows.tableNilSpec.post enc Try.prog Try.f4 false true false false) := by
  refine returnsInHanded_of_change_sized (C := Try.checked) own started (by kernel_rfl) Try.func4
    (ChangeSpec.witness6 (enc := enc) (C := Try.checked) false ⟨#[], #[.agg #[.int .i64 0, .int .i64 0, .int .i64 0, .bool false, .int .u16 0, .string ByteArray.empty, .int .i64 0, .int .i64 0, .int .i64 0, .int .i64 0]], []⟩ 8 (by kernel_rfl) (by kernel_rfl) (by kernel_rfl) (by kernel_rfl)) ?_
  intro W base args ds gs before hval0 hW hcnd hsz0 _
  have hval : ∀ (j : Nat) t v, Try.f4.params[j]? = some t → args[j]? = some v → Value.okWide Try.prog W .any base t v := hval0
  have hW' := hW
  obtain ⟨p, q, hA0, hV, rfl, hfz, hnd⟩ := hW
  have hA : DataW.TrodAll enc Try.prog W 0 (fun _ => true) true Try.f4.params.toList args.toList ds p := hA0
  rw [Try.params4] at hA hval
  obtain ⟨v0, vs0, d0, ds0, p0, q0, hargs, rfl, rfl, h0, r0⟩ := trodAll_cons hA
  obtain ⟨rfl, rfl, rfl⟩ := trodAll_nil r0
  obtain rfl : args = #[v0] := by cases args; simp_all
  obtain ⟨rfl, rfl⟩ := trodVars_none hV
  have lt0 : ∀ x ∈ p0, x.block < W.heap.size := by obtain ⟨m, hm⟩ := h0; exact DataW.trod_lt m _ _ _ hm
  obtain ⟨cs, rfl, hcs⟩ := okWide_struct Try.underlying37 (hval 0 37 v0 rfl rfl)
  have ok := oks_of_Trod (n := 6) (l := [.int .i64, .int .i64, .int .i64, .bool, .int .u16, .str, .int .i64, .int .i64, .int .i64, .int .i64]) (by kernel_rfl) h0
  obtain ⟨c0, rfl, k0⟩ := oks_agg ok
  obtain ⟨v1, c1, rfl, o1, k1⟩ := k0.cons
  obtain ⟨kd, rfl, _⟩ := o1.int
  obtain ⟨v2, c2, rfl, o2, k2⟩ := k1.cons
  obtain ⟨rn, rfl, _⟩ := o2.int
  obtain ⟨v3, c3, rfl, o3, k3⟩ := k2.cons
  obtain ⟨cl, rfl, _⟩ := o3.int
  obtain ⟨v4, c4, rfl, o4, k4⟩ := k3.cons
  obtain ⟨rf, rfl⟩ := o4.bool
  obtain ⟨v5, c5, rfl, o5, k5⟩ := k4.cons
  obtain ⟨sp, rfl, _⟩ := o5.int
  obtain ⟨v6, c6, rfl, o6, k6⟩ := k5.cons
  obtain ⟨nm, rfl, _⟩ := o6.str
  obtain ⟨v7, c7, rfl, o7, k7⟩ := k6.cons
  obtain ⟨va, rfl, _⟩ := o7.int
  obtain ⟨v8, c8, rfl, o8, k8⟩ := k7.cons
  obtain ⟨fk, rfl, _⟩ := o8.int
  obtain ⟨v9, c9, rfl, o9, k9⟩ := k8.cons
  obtain ⟨fc, rfl, _⟩ := o9.int
  obtain ⟨v10, c10, rfl, o10, k10⟩ := k9.cons
  obtain ⟨fr, rfl, _⟩ := o10.int
  obtain rfl := k10.nil
  refine (TableNil_walk kd rn cl rf ⟨sp, nm⟩ ⟨va, ⟨fk, fc, fr⟩⟩ W).mono fun e W' ⟨he, bel⟩ => ?_
  subst he
  exact ⟨_, rfl, _, _, _, [], _, [], hW', trodAll_mk1 (shut_bool Try.underlying4 _), trodAll_cons_mk (Below.trod laidOut (by kernel_rfl) (of_decide_eq_true (by kernel_rfl)) h0 bel lt0) trodAll_mk0, rfl, bel.frame _, fun h => by cases h⟩
theorem over : Rows.tableNilRow.holds Try.pinned (OpenSpec.ofChange Rows.tableNilSpec) :=
  OpenClaim.holds_of_wide 4 Try.f4 rfl rfl rfl rfl rfl rfl rfl ⟨rfl, rfl, rfl, rfl, rfl⟩ rfl rfl rfl rfl rfl (by kernel_rfl) Try.func4 (by kernel_rfl)
    (of_decide_eq_true (by kernel_rfl)) (by unfold Func.isWrapper; first | (rw [if_pos (by decide +kernel)]; kernel_rfl) | (rw [if_neg (by decide +kernel)]; exact ⟨rfl, rfl⟩))
    (fun os started H enc _ => lifted os started H enc)
theorem proved : Rows.TableNilSaid := over
#print axioms proved
end Go.Proofs.Ytfhfkfnffajciaa.tableNil
