/- Tables: New, Current, Generation, Begun. -/
import Derived.Test.YtfhfkfnffajciaaTabA
import Derived.Carry
import Derived.Deep.QuietTactic
import Derived.BigQuiet
import Derived.WalkSpells
namespace Go.Proofs
open Go.RowKit Go.Proofs.Ytfhfkfnffajciaa
namespace Ytfhfkfnffajciaa
variable {w0 w : World} {L : List Asn} {p : Nat} {t : Tab} {r : Rec}

theorem New_bad (n : Int) (h : n < 1 ∨ 4096 < n) (w : World) : Calls Try.prog 6 #[int n] w fun e w' => e = .returned (.tuple #[.pointer none, int 1]) ∧ w = w' := by
  rcases h with h | h
  · go_enter Try.func6, Try.ntmps6
    go_wp2
    go_ret2
    exact ⟨rfl, rfl⟩
  · have h' : ¬ n < 1 := by omega
    go_enter Try.func6, Try.ntmps6
    go_wp2
    go_ret2
    exact ⟨rfl, rfl⟩
theorem New_ok (n : Int) (h1 : 1 ≤ n) (h2 : n ≤ 4096) (s : St w0 w L) : Calls Try.prog 6 #[int n] w fun e w' => ∃ p, e = .returned (.tuple #[ptr p, int 0]) ∧ St w0 w' (tabA p (Tab.new n) :: L) := by
  have hmm := @run_makeMap Try.prog
  have h1' : ¬ n < 1 := by omega
  have h2' : ¬ 4096 < n := by omega
  go_enter Try.func6, Try.ntmps6
  go_wp2
  go_ret2
  refine ⟨_, rfl, ?_⟩
  have s4 := ((((s.mapNew (K := Int) (V := Nat × Rec) (enc := int) (venc := rptr)).mapNew (K := Key) (V := Int) (enc := Key.enc) (venc := int)).mapNew (K := Key) (V := Int) (enc := Key.enc) (venc := int)).allocCells
    [int n, int 0, .map (some w.heap.size), .map (some (w.heap.size + 1)), .map (some (w.heap.size + 1 + 1))] 85)
  simp only [World.size_alloc] at s4
  refine St.tabShut (rb := w.heap.size) (cb := w.heap.size + 1) (gb := w.heap.size + 1 + 1) ?_
  exact s4.mk_emp.sort [1, 4, 3, 2, 0] rfl
theorem zeroInt (w : World) : (zeroValue 3).run Try.prog w = .ok (int 0) w := by kernel_rfl
theorem zeroRec (w : World) : (zeroValue 86).run Try.prog w = .ok (.pointer none) w := by kernel_rfl
theorem Current_ok (k : Key) (s : St w0 w (tabA p t :: L)) : Calls Try.prog 20 #[ptr p, .agg #[.int .u16 k.space, .string k.name]] w fun e w' =>
    e = .returned (.tuple #[int ((aget t.cur k).getD 0), .bool (aget t.cur k).isSome]) ∧ Below w.heap.size w w' := by
  obtain ⟨rb, cb, gb, s⟩ := s.tabOpen
  have hc := s.cell
  have hlt := s.lt
  have s2 := s.sort [2, 0, 1] rfl
  have hcb := s2.mapLt
  have hl := s2.lookupAt keyTy Try.underlying28 zeroInt k
  simp only [Key.enc, orZ_int] at hl
  go_enter Try.func20, Try.ntmps20
  go_wp2
  go_quiet (fail)
  go_wp2
  go_ret2
  exact ⟨rfl, belNewN _ _ _⟩
theorem Generation_ok (k : Key) (s : St w0 w (tabA p t :: L)) : Calls Try.prog 10 #[ptr p, .agg #[.int .u16 k.space, .string k.name]] w fun e w' =>
    e = .returned (int ((aget t.gens k).getD 0)) ∧ Below w.heap.size w w' := by
  obtain ⟨rb, cb, gb, s⟩ := s.tabOpen
  have hc := s.cell
  have hlt := s.lt
  have s2 := s.sort [3, 0, 1, 2] rfl
  have hcb := s2.mapLt
  have hl := s2.lookupAt keyTy Try.underlying28 zeroInt k
  simp only [Key.enc, orZ_int] at hl
  go_enter Try.func10, Try.ntmps10
  go_wp2
  go_quiet (fail)
  go_wp2
  go_ret
  exact ⟨rfl, belNewN _ _ _⟩
theorem Begun_ok (s : St w0 w (tabA p t :: L)) : Calls Try.prog 9 #[ptr p] w fun e w' => e = .returned (int t.begun) ∧ w = w' := by
  obtain ⟨rb, cb, gb, s⟩ := s.tabOpen
  have hc := s.cell
  go_enter Try.func9, Try.ntmps9
  go_wp2
  go_ret
  exact ⟨rfl, rfl⟩
def ptrOf : Option (Nat × Rec) → Value
  | some x => ptr x.1
  | none => .pointer none
theorem orZ_rptr (o : Option (Nat × Rec)) : orZ rptr (.pointer none) o = ptrOf o := by cases o <;> rfl
theorem get_ok (n : Int) (s : St w0 w (tabA p t :: L)) : Calls Try.prog 41 #[ptr p, int n] w fun e w' => e = .returned (ptrOf (aget t.runs n)) ∧ w = w' := by
  obtain ⟨rb, cb, gb, s⟩ := s.tabOpen
  have hc := s.cell
  have s2 := s.sort [1, 0] rfl
  have hl := s2.lookupAt intTy Try.underlying83 zeroRec n
  simp only [orZ_rptr] at hl
  go_enter Try.func41, Try.ntmps41
  go_wp2
  go_ret
  exact ⟨rfl, rfl⟩
theorem Check_key (k : Key) (w : World) (hk : (k.name.size : Int) ≤ 9223372036854775807) : Calls Try.prog 47 #[.agg #[.int .u16 k.space, .string k.name]] w fun e w' =>
    e = .returned (int (if k.name.size ≤ 64 then 0 else 20)) ∧ Below w.heap.size w w' := by
  by_cases h : k.name.size ≤ 64
  · have h' : ¬ (64 : Int) < k.name.size := by omega
    go_enter Try.func47, Try.ntmps47
    go_wp2
    go_ret
    exact ⟨rfl, belNew _ _⟩
  · have h' : (64 : Int) < k.name.size := by omega
    go_enter Try.func47, Try.ntmps47
    go_wp2
    go_ret
    exact ⟨rfl, belNew _ _⟩
end Ytfhfkfnffajciaa
end Go.Proofs
