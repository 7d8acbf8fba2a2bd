/- The law's own first look: a run is begun. -/
import Derived.Test.YtfhfkfnffajciaaTab2
namespace Go.Proofs
open Go.RowKit Go.Proofs.Ytfhfkfnffajciaa
namespace Ytfhfkfnffajciaa
variable {w0 w : World} {L : List Asn}

def keyA : Key := ⟨0, ⟨#[97]⟩⟩
theorem New_ok' (s : St w0 w L) : Calls Try.prog 6 #[int 2] w fun e w' => ∃ p, e = .returned (.tuple #[ptr p, int 0]) ∧ St w0 w' (tabA p (Tab.new 2) :: L) := New_ok 2 (by omega) (by omega) s
set_option maxRecDepth 100000 in
set_option maxHeartbeats 1000000 in
theorem awake12 (s : St w0 w L) : Calls Try.prog 7 #[] w fun e w' => e = .returned (.bool true) ∧ St w0 w' L := by
  go_enter Try.func7, Try.ntmps7
  go_wp2_with fail
  refine (New_ok' s).mono ?_
  rintro e w1 ⟨p, rfl, s1⟩
  go_wp2_with fail
  refine (Begin_ok keyA 5 (by decide) (by decide) rfl (by decide) (by decide) (by decide) (by decide) (by decide) s1).mono ?_
  rintro e w2 ⟨q, rfl, s2⟩
  go_wp2_with fail
  refine (Current_ok keyA s2).mono ?_
  rintro e w3 ⟨rfl, hb⟩
  have s3 := s2.ext hb
  go_wp2
  go_ret
  exact ⟨rfl, s3.drop⟩
end Ytfhfkfnffajciaa
end Go.Proofs
