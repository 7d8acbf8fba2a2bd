/- Records: New, Run, Cancelled, Ended, Interest. -/
import Derived.Test.YtfhfkfnffajciaaTabA
namespace Go.Proofs
open Go.RowKit Go.Proofs.Ytfhfkfnffajciaa
namespace Ytfhfkfnffajciaa
variable {w0 w : World} {L : List Asn} {p : Nat} {t : Tab} {r : Rec}

def Rec.new (x : Run) (c : Int) : Rec := { run := x, waiters := if x.refresh then [] else [c], kept := x.refresh, cancelled := false, ended := false, outcome := ⟨0, ⟨0, 0, 0⟩⟩ }

theorem recNew_no (xr xg c : Int) (k : Key) (h1 : 1 ≤ xr) (h2 : 0 ≤ xg) (h3 : 1 ≤ c) (s : St w0 w L) :
    Calls Try.prog 50 #[.agg #[int xr, .int .u16 k.space, .string k.name, int xg, .bool false], int c] w fun e w' =>
      ∃ q, e = .returned (.tuple #[ptr q, int 0]) ∧ St w0 w' (recA q (Rec.new ⟨xr, k, xg, false⟩ c) :: L) := by
  have g1 : ¬ xr < 1 := by omega
  have g2 : ¬ xg < 0 := by omega
  have g3 : ¬ c < 0 := by omega
  have g4 : (c == 0) = false := by simp; omega
  have u1 := Try.underlying58
  have u2 := Try.underlying132
  go_enter Try.func50, Try.ntmps50
  go_wp2
  go_ret2
  refine ⟨_, rfl, ?_⟩
  have s3 := ((s.ext (belNew w (.cells #[int xr, .int .u16 k.space, .string k.name, int xg, .bool false] 58))).allocCells
    (recCells (.slice (some ⟨w.heap.size + 1 + 1, 0, none⟩) 1 1) (Rec.new ⟨xr, k, xg, false⟩ c)) 132).allocCells [int c] 3
  simp only [World.size_alloc] at s3
  exact St.recShut (St.swap (St.rowMk (xs := [int c]) (sp := []) (n := 1) s3 rfl (Nat.le_refl _) (by decide) rfl))
theorem recNew_yes (xr xg : Int) (k : Key) (h1 : 1 ≤ xr) (h2 : 0 ≤ xg) (s : St w0 w L) :
    Calls Try.prog 50 #[.agg #[int xr, .int .u16 k.space, .string k.name, int xg, .bool true], int 0] w fun e w' =>
      ∃ q, e = .returned (.tuple #[ptr q, int 0]) ∧ St w0 w' (recA q (Rec.new ⟨xr, k, xg, true⟩ 0) :: L) := by
  have g1 : ¬ xr < 1 := by omega
  have g2 : ¬ xg < 0 := by omega
  have u1 := Try.underlying58
  have u2 := Try.underlying132
  go_enter Try.func50, Try.ntmps50
  go_wp2
  go_ret2
  refine ⟨_, rfl, ?_⟩
  have s3 := ((s.ext (belNew w (.cells #[int xr, .int .u16 k.space, .string k.name, int xg, .bool true] 58))).allocCells
    (recCells (.slice none 0 0) (Rec.new ⟨xr, k, xg, true⟩ 0)) 132)
  simp only [World.size_alloc] at s3
  exact St.recShut (St.swap (St.rowNil s3))
end Ytfhfkfnffajciaa
end Go.Proofs
