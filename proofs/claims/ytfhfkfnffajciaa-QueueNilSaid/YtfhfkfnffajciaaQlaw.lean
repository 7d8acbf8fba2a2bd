/- The law QueueNil: the walk. -/
import Derived.Test.YtfhfkfnffajciaaQnil
namespace Go.Proofs
open Go.RowKit Go.Proofs.Ytfhfkfnffajciaa
namespace Ytfhfkfnffajciaa
set_option maxRecDepth 100000 in
set_option maxHeartbeats 4000000 in
theorem QueueNil_walk (k a : Int) (w : World) : Calls Try.prog 5 #[.int .i64 k, .int .i64 a] w fun e w' => e = .returned (.bool true) ∧ Below w.heap.size w w' := by
  have one : ∀ (want : Int), (∀ W, Calls Try.prog 31 #[.pointer none, .int .i64 a, .int .i64 k] W fun e w' => e = .returned (.int .i64 want) ∧ W = w') →
      ((badAt a = true ∧ want = 1) ∨ (badAt a = false ∧ want = 3)) →
      Calls Try.prog 5 #[.int .i64 k, .int .i64 a] w fun e w' => e = .returned (.bool true) ∧ Below w.heap.size w w' := by
    intro want hput hw
    by_cases h1 : a < 0
    · have g1 : decide (a < 0) = true := by simpa using h1
      obtain rfl : want = 1 := by
        rcases hw with ⟨_, h⟩ | ⟨h, _⟩
        · exact h
        · simp [badAt, g1] at h
      clear hw h1
      go_enter Try.func5, Try.ntmps5
      go_wp2_with (first
        | (go_at_call 24; refine (nTake _).mono ?_; rintro e w' ⟨rfl, rfl⟩)
        | (go_at_call 25; refine (nFront _).mono ?_; rintro e w' ⟨rfl, rfl⟩)
        | (go_at_call 30; refine (nPut _ _).mono ?_; rintro e w' ⟨rfl, rfl⟩)
        | (go_at_call 32; refine (nDrop _ _).mono ?_; rintro e w' ⟨rfl, rfl⟩)
        | (go_at_call 34; refine (nHas _ _).mono ?_; rintro e w' ⟨rfl, rfl⟩)
        | (go_at_call 35; refine (nBack _ _).mono ?_; rintro e w' ⟨rfl, rfl⟩)
        | (go_at_call 36; refine (nLen _).mono ?_; rintro e w' ⟨rfl, rfl⟩)
        | (go_at_call 38; refine (nAll _).mono ?_; rintro e w' ⟨rfl, rfl⟩)
        | (go_at_call 28; refine (tAt _ _).mono ?_; rintro e w' ⟨rfl, rfl⟩)
        | (go_at_call 31; refine (hput _).mono ?_; rintro e w' ⟨rfl, rfl⟩)
        | (go_at_call 33; refine (tDrop _ _).mono ?_; rintro e w' ⟨rfl, rfl⟩)
        | (go_at_call 37; refine (tLen _).mono ?_; rintro e w' ⟨rfl, rfl⟩)
        | (go_at_call 39; refine (tAll _).mono ?_; rintro e w' ⟨rfl, rfl⟩)
        | (go_at_call 26; refine (tTake _ _).mono ?_; rintro e w1 ⟨rfl, hb1⟩; have hc1 := hb1)
        | (go_at_call 27; refine (tNext _).mono ?_; rintro e w2 ⟨rfl, hb2⟩; have hc2 := hc1.trans (hb2.mono hc1.size))
        | (go_at_call 29; refine (awake04 (St.init _)).mono ?_; rintro e w3 ⟨rfl, s3⟩; have hc3 := hc2.trans (s3.below.mono hc2.size))
        | (go_at_call 40; refine (tDue _ _).mono ?_; rintro e w4 ⟨rfl, hb4⟩; have hc4 := hc3.trans (hb4.mono hc3.size)))
      go_ret
      exact ⟨rfl, hc4⟩
    · have g1 : decide (a < 0) = false := by simpa using h1
      by_cases h2 : 4611686018427387904 < a
      · have g2 : decide (4611686018427387904 < a) = true := by simpa using h2
        obtain rfl : want = 1 := by
          rcases hw with ⟨_, h⟩ | ⟨h, _⟩
          · exact h
          · simp [badAt, g1, g2] at h
        clear hw h1 h2
        go_enter Try.func5, Try.ntmps5
        go_wp2_with (first
          | (go_at_call 24; refine (nTake _).mono ?_; rintro e w' ⟨rfl, rfl⟩)
          | (go_at_call 25; refine (nFront _).mono ?_; rintro e w' ⟨rfl, rfl⟩)
          | (go_at_call 30; refine (nPut _ _).mono ?_; rintro e w' ⟨rfl, rfl⟩)
          | (go_at_call 32; refine (nDrop _ _).mono ?_; rintro e w' ⟨rfl, rfl⟩)
          | (go_at_call 34; refine (nHas _ _).mono ?_; rintro e w' ⟨rfl, rfl⟩)
          | (go_at_call 35; refine (nBack _ _).mono ?_; rintro e w' ⟨rfl, rfl⟩)
          | (go_at_call 36; refine (nLen _).mono ?_; rintro e w' ⟨rfl, rfl⟩)
          | (go_at_call 38; refine (nAll _).mono ?_; rintro e w' ⟨rfl, rfl⟩)
          | (go_at_call 28; refine (tAt _ _).mono ?_; rintro e w' ⟨rfl, rfl⟩)
          | (go_at_call 31; refine (hput _).mono ?_; rintro e w' ⟨rfl, rfl⟩)
          | (go_at_call 33; refine (tDrop _ _).mono ?_; rintro e w' ⟨rfl, rfl⟩)
          | (go_at_call 37; refine (tLen _).mono ?_; rintro e w' ⟨rfl, rfl⟩)
          | (go_at_call 39; refine (tAll _).mono ?_; rintro e w' ⟨rfl, rfl⟩)
          | (go_at_call 26; refine (tTake _ _).mono ?_; rintro e w1 ⟨rfl, hb1⟩; have hc1 := hb1)
          | (go_at_call 27; refine (tNext _).mono ?_; rintro e w2 ⟨rfl, hb2⟩; have hc2 := hc1.trans (hb2.mono hc1.size))
          | (go_at_call 29; refine (awake04 (St.init _)).mono ?_; rintro e w3 ⟨rfl, s3⟩; have hc3 := hc2.trans (s3.below.mono hc2.size))
          | (go_at_call 40; refine (tDue _ _).mono ?_; rintro e w4 ⟨rfl, hb4⟩; have hc4 := hc3.trans (hb4.mono hc3.size)))
        go_ret
        exact ⟨rfl, hc4⟩
      · have g2 : decide (4611686018427387904 < a) = false := by simpa using h2
        obtain rfl : want = 3 := by
          rcases hw with ⟨h, _⟩ | ⟨_, h⟩
          · simp [badAt, g1, g2] at h
          · exact h
        clear hw h1 h2
        go_enter Try.func5, Try.ntmps5
        go_wp2_with (first
          | (go_at_call 24; refine (nTake _).mono ?_; rintro e w' ⟨rfl, rfl⟩)
          | (go_at_call 25; refine (nFront _).mono ?_; rintro e w' ⟨rfl, rfl⟩)
          | (go_at_call 30; refine (nPut _ _).mono ?_; rintro e w' ⟨rfl, rfl⟩)
          | (go_at_call 32; refine (nDrop _ _).mono ?_; rintro e w' ⟨rfl, rfl⟩)
          | (go_at_call 34; refine (nHas _ _).mono ?_; rintro e w' ⟨rfl, rfl⟩)
          | (go_at_call 35; refine (nBack _ _).mono ?_; rintro e w' ⟨rfl, rfl⟩)
          | (go_at_call 36; refine (nLen _).mono ?_; rintro e w' ⟨rfl, rfl⟩)
          | (go_at_call 38; refine (nAll _).mono ?_; rintro e w' ⟨rfl, rfl⟩)
          | (go_at_call 28; refine (tAt _ _).mono ?_; rintro e w' ⟨rfl, rfl⟩)
          | (go_at_call 31; refine (hput _).mono ?_; rintro e w' ⟨rfl, rfl⟩)
          | (go_at_call 33; refine (tDrop _ _).mono ?_; rintro e w' ⟨rfl, rfl⟩)
          | (go_at_call 37; refine (tLen _).mono ?_; rintro e w' ⟨rfl, rfl⟩)
          | (go_at_call 39; refine (tAll _).mono ?_; rintro e w' ⟨rfl, rfl⟩)
          | (go_at_call 26; refine (tTake _ _).mono ?_; rintro e w1 ⟨rfl, hb1⟩; have hc1 := hb1)
          | (go_at_call 27; refine (tNext _).mono ?_; rintro e w2 ⟨rfl, hb2⟩; have hc2 := hc1.trans (hb2.mono hc1.size))
          | (go_at_call 29; refine (awake04 (St.init _)).mono ?_; rintro e w3 ⟨rfl, s3⟩; have hc3 := hc2.trans (s3.below.mono hc2.size))
          | (go_at_call 40; refine (tDue _ _).mono ?_; rintro e w4 ⟨rfl, hb4⟩; have hc4 := hc3.trans (hb4.mono hc3.size)))
        go_ret
        exact ⟨rfl, hc4⟩
  cases h : badAt a
  · exact one 3 (fun W => tPut_good a k h W) (.inr ⟨h, rfl⟩)
  · exact one 1 (fun W => tPut_bad a k h W) (.inl ⟨h, rfl⟩)
end Ytfhfkfnffajciaa
end Go.Proofs
