/- Failures and outcomes: Check, Right. -/
import Derived.Test.YtfhfkfnffajciaaTabA
import Derived.Test.YtfhfkfnffajciaaEqT
namespace Go.Proofs
open Go.RowKit Go.Proofs.Ytfhfkfnffajciaa
namespace Ytfhfkfnffajciaa
variable {w0 w : World} {L : List Asn}

def Fail.ok (f : Fail) : Bool :=
  if f.kind = 0 ∨ f.kind = 3 ∨ f.kind = 4 then decide (f.code = 0 ∧ f.run = 0)
  else if f.kind = 1 ∨ f.kind = 2 then decide (1 ≤ f.run)
  else if f.kind = 5 then decide (f.code = 0 ∧ 1 ≤ f.run) else false
def Fail.errno (f : Fail) : Int := if f.ok then 0 else 30
def Outcome.right (o : Outcome) : Bool := o.fail.ok && (decide (o.value = 0) || decide (o.fail = ⟨0, 0, 0⟩))
def failV (f : Fail) : Value := .agg #[int f.kind, int f.code, int f.run]
def outV (o : Outcome) : Value := .agg #[int o.value, int o.fail.kind, int o.fail.code, int o.fail.run]
set_option maxRecDepth 100000 in
set_option maxHeartbeats 2000000 in
theorem failCheck_ok (k c r : Int) (w : World) : Calls Try.prog 92 #[.agg #[int k, int c, int r]] w fun e w' => e = .returned (int (Fail.errno ⟨k, c, r⟩)) ∧ Below w.heap.size w w' := by
  go_enter Try.func92, Try.ntmps92
  go_wp2
  all_goals
    go_ret
    refine ⟨?_, by first | exact belNew _ _ | exact Below.refl _ _⟩
    simp_all [Fail.errno, Fail.ok]
    try omega
set_option maxRecDepth 100000 in
set_option maxHeartbeats 2000000 in
theorem failRight_ok (o : Outcome) (w : World) : Calls Try.prog 72 #[outV o] w fun e w' => e = .returned (.bool o.right) ∧ Below w.heap.size w w' := by
  unfold outV
  have hb0 := belNew w (.cells #[int o.value, int o.fail.kind, int o.fail.code, int o.fail.run] 35)
  have hch := fun W => failCheck_ok o.fail.kind o.fail.code o.fail.run W
  cases hok : o.fail.ok
  · have he : Fail.errno ⟨o.fail.kind, o.fail.code, o.fail.run⟩ = 30 := by simp [Fail.errno, hok]
    rw [he] at hch
    have hr : o.right = false := by simp [Outcome.right, hok]
    rw [hr]
    clear hr he
    go_enter Try.func72, Try.ntmps72
    go_wp2_with (first | (go_at_call 92; refine (hch _).mono ?_; rintro e w' ⟨rfl, hb⟩))
    go_ret
    exact ⟨rfl, hb0.trans (hb.mono (by simp))⟩
  · have he : Fail.errno ⟨o.fail.kind, o.fail.code, o.fail.run⟩ = 0 := by simp [Fail.errno, hok]
    rw [he] at hch
    clear he
    have hr : o.right = (decide (o.value = 0) || (decide (o.fail.kind = 0) && (decide (o.fail.code = 0) && decide (o.fail.run = 0)))) := by
      obtain ⟨v, ⟨k, c, r⟩⟩ := o
      simp [Outcome.right, hok]
    rw [hr]
    clear hr
    go_enter Try.func72, Try.ntmps72
    go_wp2_with (first | (go_at_call 92; refine (hch _).mono ?_; rintro e w' ⟨rfl, hb⟩; have hc1 : ∀ i, w'.cell? ⟨w.heap.size, i, none⟩ = [int o.value, int o.fail.kind, int o.fail.code, int o.fail.run][i]? := fun i => by rw [hb.cell (p := ⟨w.heap.size, i, none⟩) (by simp)]; simp [cell_of_row _ _ i _ _ _ (heap_alloc_new w _)]))
    all_goals
      go_ret
      refine ⟨?_, hb0.trans (hb.mono (by simp))⟩
      simp_all
end Ytfhfkfnffajciaa
end Go.Proofs
