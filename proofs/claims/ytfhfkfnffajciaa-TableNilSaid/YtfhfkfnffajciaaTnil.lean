/- TableNil: its walk. -/
import Derived.Test.YtfhfkfnffajciaaAwake12
import Derived.Test.YtfhfkfnffajciaaTn
import Derived.Test.YtfhfkfnffajciaaEqT
namespace Go.Proofs
open Go.RowKit Go.Proofs.Ytfhfkfnffajciaa
namespace Ytfhfkfnffajciaa

def actCells (kd rn cl : Int) (rf : Bool) (k : Key) (o : Outcome) : List Value :=
  [int kd, int rn, int cl, .bool rf, .int .u16 k.space, .string k.name, int o.value, int o.fail.kind, int o.fail.code, int o.fail.run]

set_option maxRecDepth 100000 in
set_option maxHeartbeats 4000000 in
theorem TableNil_walk (kd rn cl : Int) (rf : Bool) (k : Key) (o : Outcome) (w : World) :
    Calls Try.prog 4 #[.agg #[int kd, int rn, int cl, .bool rf, .int .u16 k.space, .string k.name, int o.value, int o.fail.kind, int o.fail.code, int o.fail.run]] w fun e w' => e = .returned (.bool true) ∧ Below w.heap.size w w' := by
  go_enter Try.func4, Try.ntmps4
  have s := (St.init w).allocCells (actCells kd rn cl rf k o) 37
  go_wp2_with fail
  refine (Ytfhfkfnffajciaa.nil_Begin _ _ _ _ _).mono ?_
  rintro e v ⟨rfl, hb⟩
  have s := s.ext hb
  clear hb
  have c := (s.sort [0] rfl).cell; unfold actCells at c; have l := (s.sort [0] rfl).lt
  go_wp2_with fail
  refine (Ytfhfkfnffajciaa.nil_Leave _ _ _).mono ?_
  rintro e v ⟨rfl, hb⟩
  have s := s.ext hb
  clear hb c l
  have c := (s.sort [0] rfl).cell; unfold actCells at c; have l := (s.sort [0] rfl).lt
  go_wp2_with fail
  refine (Ytfhfkfnffajciaa.nil_Release _ _).mono ?_
  rintro e v ⟨rfl, hb⟩
  have s := (s.allocCells [.bool false, .bool false] 43).ext hb
  clear hb c l
  have c := (s.sort [1, 0] rfl).cell; unfold actCells at c; have l := (s.sort [1, 0] rfl).lt
  go_wp2_with fail
  refine (Ytfhfkfnffajciaa.nil_Forget _ _ _).mono ?_
  rintro e v ⟨rfl, hb⟩
  have s := (s.allocCells [.bool false, .bool false] 43).ext hb
  clear hb c l
  have c := (s.sort [2, 0, 1] rfl).cell; unfold actCells at c; have l := (s.sort [2, 0, 1] rfl).lt
  go_wp2_with fail
  refine (Ytfhfkfnffajciaa.nil_End _ _ _ _ _ _).mono ?_
  rintro e v ⟨rfl, hb⟩
  have s := s.ext hb
  clear hb c l
  have c := (s.sort [2, 0, 1] rfl).cell; unfold actCells at c; have l := (s.sort [2, 0, 1] rfl).lt
  go_wp2_with fail
  refine (Ytfhfkfnffajciaa.nil_Current _ _ _).mono ?_
  rintro e v ⟨rfl, hb⟩
  have s := s.ext hb
  clear hb c l
  have c := (s.sort [2, 0, 1] rfl).cell; unfold actCells at c; have l := (s.sort [2, 0, 1] rfl).lt
  go_wp2_with fail
  refine (Ytfhfkfnffajciaa.nil_Run _ _).mono ?_
  rintro e v ⟨rfl, hb⟩
  have s := s.ext hb
  clear hb c l
  have c := (s.sort [2, 0, 1] rfl).cell; unfold actCells at c; have l := (s.sort [2, 0, 1] rfl).lt
  clear c l
  have c := (s.sort [2, 0, 1] rfl).cell; unfold actCells at c; have l := (s.sort [2, 0, 1] rfl).lt; have c8 := s.cell; have l8 := s.lt; have c6 := (s.sort [1, 0] rfl).cell; have l6 := (s.sort [1, 0] rfl).lt
  go_wp2_with fail
  have s := s.allocCells [int 0, .int .u16 0, .string ByteArray.empty, int 0, .bool false] 58
  refine (awake12 s).mono ?_
  rintro e v ⟨rfl, s⟩
  clear c l c8 l8 c6 l6
  have c := (s.sort [3, 0, 1, 2] rfl).cell; unfold actCells at c; have l := (s.sort [3, 0, 1, 2] rfl).lt
  go_wp2_with fail
  refine (Ytfhfkfnffajciaa.nil_Join _ _ _).mono ?_
  rintro e v ⟨rfl, hb⟩
  have s := s.ext hb
  clear hb c l
  have c := (s.sort [3, 0, 1, 2] rfl).cell; unfold actCells at c; have l := (s.sort [3, 0, 1, 2] rfl).lt
  go_wp2_with fail
  refine (Ytfhfkfnffajciaa.nil_Generation _ _ _).mono ?_
  rintro e v ⟨rfl, hb⟩
  have s := s.ext hb
  clear hb c l
  have c := (s.sort [3, 0, 1, 2] rfl).cell; unfold actCells at c; have l := (s.sort [3, 0, 1, 2] rfl).lt
  go_wp2_with fail
  refine (Ytfhfkfnffajciaa.nil_Waiters _ _).mono ?_
  rintro e v ⟨rfl, hb⟩
  have s := s.ext hb
  clear hb c l
  have c := (s.sort [3, 0, 1, 2] rfl).cell; unfold actCells at c; have l := (s.sort [3, 0, 1, 2] rfl).lt
  go_wp2_with fail
  refine (Ytfhfkfnffajciaa.nil_Cancelled _ _).mono ?_
  rintro e v ⟨rfl, hb⟩
  have s := s.ext hb
  clear hb c l
  have c := (s.sort [3, 0, 1, 2] rfl).cell; unfold actCells at c; have l := (s.sort [3, 0, 1, 2] rfl).lt
  go_wp2_with fail
  refine (Ytfhfkfnffajciaa.nil_IsCurrent _ _).mono ?_
  rintro e v ⟨rfl, hb⟩
  have s := s.ext hb
  clear hb c l
  have c := (s.sort [3, 0, 1, 2] rfl).cell; unfold actCells at c; have l := (s.sort [3, 0, 1, 2] rfl).lt
  go_wp2_with fail
  refine (Ytfhfkfnffajciaa.nil_Progress _).mono ?_
  rintro e v ⟨rfl, hb⟩
  have s := s.ext hb
  clear hb c l
  have c := (s.sort [3, 0, 1, 2] rfl).cell; unfold actCells at c; have l := (s.sort [3, 0, 1, 2] rfl).lt
  go_wp2_with fail
  refine (Ytfhfkfnffajciaa.nil_Currents _).mono ?_
  rintro e v ⟨rfl, hb⟩
  have s := s.ext hb
  clear hb c l
  have c := (s.sort [3, 0, 1, 2] rfl).cell; unfold actCells at c; have l := (s.sort [3, 0, 1, 2] rfl).lt
  go_wp2_with fail
  refine (Ytfhfkfnffajciaa.nil_Begun _).mono ?_
  rintro e v ⟨rfl, hb⟩
  have s := s.ext hb
  clear hb c l
  have c := (s.sort [3, 0, 1, 2] rfl).cell; unfold actCells at c; have l := (s.sort [3, 0, 1, 2] rfl).lt
  go_wp2_with fail
  refine (Ytfhfkfnffajciaa.nil_Clone _).mono ?_
  rintro e v ⟨rfl, hb⟩
  have s := s.ext hb
  clear hb c l
  have c := (s.sort [3, 0, 1, 2] rfl).cell; unfold actCells at c; have l := (s.sort [3, 0, 1, 2] rfl).lt
  go_wp2_with fail
  go_ret
  exact ⟨rfl, s.below⟩
end Ytfhfkfnffajciaa
end Go.Proofs
