/- Nil queues. -/
import Derived.Test.YtfhfkfnffajciaaQ3
namespace Go.Proofs
open Go.RowKit Go.Proofs.Ytfhfkfnffajciaa
namespace Ytfhfkfnffajciaa
variable {w0 w : World} {L : List Asn} {p : Nat}
theorem nFront (w : World) : Calls Try.prog 25 #[.pointer none] w fun e w' => e = .returned (.tuple #[.int .i64 0, .bool false]) ∧ w = w' := by
  go_enter Try.func25, Try.ntmps25
  go_wp2
  go_ret2
  exact ⟨rfl, rfl⟩
theorem nTake (w : World) : Calls Try.prog 24 #[.pointer none] w fun e w' => e = .returned (.tuple #[.int .i64 0, .bool false]) ∧ w = w' := by
  go_enter Try.func24, Try.ntmps24
  go_wp2_with (first | (go_at_call 25; refine (nFront _).mono ?_; rintro e w' ⟨rfl, rfl⟩))
  go_ret2
  exact ⟨rfl, rfl⟩
theorem nHas (k : Int) (w : World) : Calls Try.prog 34 #[.pointer none, .int .i64 k] w fun e w' => e = .returned (.bool false) ∧ w = w' := by
  go_enter Try.func34, Try.ntmps34
  go_wp2
  go_ret
  exact ⟨rfl, rfl⟩
theorem nDrop (k : Int) (w : World) : Calls Try.prog 32 #[.pointer none, .int .i64 k] w fun e w' => e = .returned (.bool false) ∧ w = w' := by
  go_enter Try.func32, Try.ntmps32
  go_wp2_with (first | (go_at_call 34; refine (nHas _ _).mono ?_; rintro e w' ⟨rfl, rfl⟩))
  go_ret
  exact ⟨rfl, rfl⟩
theorem nBack (k : Int) (w : World) : Calls Try.prog 35 #[.pointer none, .int .i64 k] w fun e w' => e = .returned (.bool false) ∧ w = w' := by
  go_enter Try.func35, Try.ntmps35
  go_wp2_with (first | (go_at_call 32; refine (nDrop _ _).mono ?_; rintro e w' ⟨rfl, rfl⟩))
  go_ret
  exact ⟨rfl, rfl⟩
theorem nPut (k : Int) (w : World) : Calls Try.prog 30 #[.pointer none, .int .i64 k] w fun e w' => e = .returned (.int .i64 3) ∧ w = w' := by
  go_enter Try.func30, Try.ntmps30
  go_wp2
  go_ret
  exact ⟨rfl, rfl⟩
theorem nLen (w : World) : Calls Try.prog 36 #[.pointer none] w fun e w' => e = .returned (.int .i64 0) ∧ w = w' := by
  go_enter Try.func36, Try.ntmps36
  go_wp2
  go_ret
  exact ⟨rfl, rfl⟩
theorem nAll (w : World) : Calls Try.prog 38 #[.pointer none] w fun e w' => e = .returned (.slice none 0 0) ∧ w = w' := by
  go_enter Try.func38, Try.ntmps38
  go_wp2
  go_ret
  exact ⟨rfl, rfl⟩
def zeroT : Value := .agg #[.int .i64 0, .int .i64 0, .int .i64 0]
theorem tTop (w : World) : Calls Try.prog 60 #[.pointer none] w fun e w' => e = .returned (.tuple #[.agg #[.int .i64 0, .int .i64 0, .int .i64 0], .bool false]) ∧ Below w.heap.size w w' := by
  go_enter Try.func60, Try.ntmps60
  go_wp2
  exact bodyPost_ret (v := .tuple #[.agg #[.int .i64 0, .int .i64 0, .int .i64 0], .bool false]) (by simp [results, Try.results60, go_sem]) rfl ⟨rfl, belNew _ _⟩
theorem tTake (a : Int) (w : World) : Calls Try.prog 26 #[.pointer none, .int .i64 a] w fun e w' => e = .returned (.tuple #[.int .i64 0, .bool false]) ∧ Below w.heap.size w w' := by
  go_enter Try.func26, Try.ntmps26
  go_wp2_with (first | (go_at_call 60; refine (tTop _).mono ?_; rintro e w1 ⟨rfl, hb⟩))
  go_ret2
  exact ⟨rfl, hb.alloc hb.size _⟩
theorem tNext (w : World) : Calls Try.prog 27 #[.pointer none] w fun e w' => e = .returned (.tuple #[.int .i64 0, .int .i64 0, .bool false]) ∧ Below w.heap.size w w' := by
  go_enter Try.func27, Try.ntmps27
  go_wp2_with (first | (go_at_call 60; refine (tTop _).mono ?_; rintro e w1 ⟨rfl, hb⟩))
  go_region
  go_wp2
  go_ret3
  exact ⟨rfl, (hb.alloc hb.size _).drew⟩
theorem timesNext_one (at0 k : Int) (s : St w0 w (timesOne p at0 k :: L)) :
    Calls Try.prog 27 #[.pointer (some ⟨p, 0, none⟩)] w fun e w' => e = .returned (.tuple #[.int .i64 at0, .int .i64 k, .bool true]) ∧ Below w.heap.size w w' := by
  have htop := timesTop_one at0 k s
  go_enter Try.func27, Try.ntmps27
  go_wp2_with (first | (go_at_call 60; refine htop.mono ?_; rintro e w1 ⟨rfl, hb⟩))
  go_region
  go_wp2
  go_ret3
  exact ⟨rfl, (hb.alloc hb.size _).drew⟩
theorem tAt (k : Int) (w : World) : Calls Try.prog 28 #[.pointer none, .int .i64 k] w fun e w' => e = .returned (.tuple #[.int .i64 0, .bool false]) ∧ w = w' := by
  go_enter Try.func28, Try.ntmps28
  go_wp2
  go_ret2
  exact ⟨rfl, rfl⟩
theorem tDrop (k : Int) (w : World) : Calls Try.prog 33 #[.pointer none, .int .i64 k] w fun e w' => e = .returned (.bool false) ∧ w = w' := by
  go_enter Try.func33, Try.ntmps33
  go_wp2
  go_ret
  exact ⟨rfl, rfl⟩
theorem tLen (w : World) : Calls Try.prog 37 #[.pointer none] w fun e w' => e = .returned (.int .i64 0) ∧ w = w' := by
  go_enter Try.func37, Try.ntmps37
  go_wp2
  go_ret
  exact ⟨rfl, rfl⟩
theorem tAll (w : World) : Calls Try.prog 39 #[.pointer none] w fun e w' => e = .returned (.slice none 0 0) ∧ w = w' := by
  go_enter Try.func39, Try.ntmps39
  go_wp2
  go_ret
  exact ⟨rfl, rfl⟩
def badAt (a : Int) : Bool := decide (a < 0) || decide (4611686018427387904 < a)
theorem tPut_bad (a k : Int) (h : badAt a = true) (w : World) : Calls Try.prog 31 #[.pointer none, .int .i64 a, .int .i64 k] w fun e w' => e = .returned (.int .i64 1) ∧ w = w' := by
  by_cases h1 : a < 0
  · have g1 : decide (a < 0) = true := by simpa using h1
    go_enter Try.func31, Try.ntmps31
    go_wp2
    go_ret
    exact ⟨rfl, rfl⟩
  · have g1 : decide (a < 0) = false := by simpa using h1
    have g2 : decide (4611686018427387904 < a) = true := by simpa [badAt, g1] using h
    go_enter Try.func31, Try.ntmps31
    go_wp2
    go_ret
    exact ⟨rfl, rfl⟩
theorem tPut_good (a k : Int) (h : badAt a = false) (w : World) : Calls Try.prog 31 #[.pointer none, .int .i64 a, .int .i64 k] w fun e w' => e = .returned (.int .i64 3) ∧ w = w' := by
  simp only [badAt, Bool.or_eq_false_iff] at h
  obtain ⟨g1, g2⟩ := h
  go_enter Try.func31, Try.ntmps31
  go_wp2
  go_ret
  exact ⟨rfl, rfl⟩
theorem tDue (a : Int) (w : World) : Calls Try.prog 40 #[.pointer none, .int .i64 a] w fun e w' => e = .returned (.slice none 0 0) ∧ Below w.heap.size w w' := by
  go_enter Try.func40, Try.ntmps40
  go_wp2
  refine wp_loop_rounds 1 ?_
  rw [rounds_succ]
  go_wp2_with (first | (go_at_call 26; refine (tTake _ _).mono ?_; rintro e w1 ⟨rfl, hb⟩))
  go_ret
  exact ⟨rfl, hb⟩
set_option maxRecDepth 100000 in
set_option maxHeartbeats 1000000 in
theorem awake04 (s : St w0 w L) : Calls Try.prog 29 #[] w fun e w' => e = .returned (.bool true) ∧ St w0 w' L := by
  go_enter Try.func29, Try.ntmps29
  go_wp2_with fail
  refine (newTurns_ok s).mono ?_
  rintro e w1 ⟨q, rfl, s1⟩
  go_wp2_with fail
  refine (newTimes_ok s1).mono ?_
  rintro e w2 ⟨t, rfl, s2⟩
  go_wp2_with fail
  refine (turnsPut_ok 5 rfl (by decide) (by decide) (by decide) s2.swap).mono ?_
  rintro e w3 ⟨rfl, s3⟩
  go_wp2_with fail
  refine (turnsPut_ok 3 (by decide) (by decide) (by decide) (by decide) s3).mono ?_
  rintro e w4 ⟨rfl, s4⟩
  go_wp2_with fail
  refine (timesPut_new 7 1 (by decide) (by decide) s4.swap).mono ?_
  rintro e w5 ⟨rfl, s5⟩
  go_wp2_with fail
  refine (turnsTake_ok (k := 5) (by decide) (by decide) (by decide) (by decide) s5.swap).mono ?_
  rintro e w6 ⟨rfl, s6⟩
  go_wp2_with fail
  refine (timesNext_one 7 1 s6.swap).mono ?_
  rintro e w7 ⟨rfl, hb⟩
  have s7 := (s6.ext hb).drop.drop
  clear hb s s1 s2 s3 s4 s5 s6
  go_wp2_with fail
  go_ret
  exact ⟨rfl, s7⟩
end Ytfhfkfnffajciaa
end Go.Proofs
