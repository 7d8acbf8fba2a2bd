/- Records: what is done to one that has not ended. -/
import Derived.Test.YtfhfkfnffajciaaRec1
import Derived.Test.YtfhfkfnffajciaaIntRow
namespace Go.Proofs
open Go.RowKit Go.Proofs.Ytfhfkfnffajciaa
namespace Ytfhfkfnffajciaa
variable {w0 w : World} {L : List Asn} {p q : Nat} {t : Tab} {r : Rec}

def Rec.interest (r : Rec) : Nat := r.waiters.length + if r.kept then 1 else 0
def Rec.look (r : Rec) : Rec × Bool := if r.interest = 0 ∧ r.cancelled = false then ({ r with cancelled := true }, true) else (r, false)
def Rec.join (r : Rec) (c : Int) : Rec × Int :=
  if c < 1 then (r, 1) else if r.cancelled then (r, 113) else if c ∈ r.waiters then (r, 111) else ({ r with waiters := r.waiters ++ [c] }, 0)
def Rec.leave (r : Rec) (c : Int) : Rec × Bool × Int :=
  if c ∈ r.waiters then (({ r with waiters := r.waiters.erase c }).look.1, ({ r with waiters := r.waiters.erase c }).look.2, 0) else (r, false, 112)
def Rec.release (r : Rec) : Rec × Bool := if r.kept then ({ r with kept := false }).look else (r, false)
def runV (x : Run) : Value := .agg #[int x.run, .int .u16 x.key.space, .string x.key.name, int x.gen, .bool x.refresh]

theorem recRun_ok (s : St w0 w (recA q r :: L)) : Calls Try.prog 49 #[ptr q] w fun e w' => e = .returned (runV r.run) ∧ Below w.heap.size w w' := by
  obtain ⟨v, s⟩ := s.recOpen
  have hc := s.cell
  have hl := s.lt
  simp only [recCells] at hc
  go_enter Try.func49, Try.ntmps49
  go_wp2
  exact bodyPost_ret (v := runV r.run) (by simp [results, Try.results49, go_sem]; rfl) rfl ⟨rfl, by first | exact Below.refl _ _ | exact belNew _ _⟩
theorem recCancelled_ok (s : St w0 w (recA q r :: L)) : Calls Try.prog 42 #[ptr q] w fun e w' => e = .returned (.bool r.cancelled) ∧ w = w' := by
  obtain ⟨v, s⟩ := s.recOpen
  have hc := s.cell
  simp only [recCells] at hc
  go_enter Try.func42, Try.ntmps42
  go_wp2
  go_ret
  exact ⟨rfl, rfl⟩
theorem recWaits_ok (c : Int) (s : St w0 w (recA q r :: L)) : Calls Try.prog 68 #[ptr q, int c] w fun e w' => e = .returned (.bool (decide (c ∈ r.waiters))) ∧ w = w' := by
  obtain ⟨v, s⟩ := s.recOpen
  have hc := s.cell
  simp only [recCells] at hc
  go_enter Try.func68, Try.ntmps68
  go_wp2_with fail
  refine (St.contains s.swap c).mono ?_
  rintro e w' ⟨rfl, rfl⟩
  go_wp2
  go_ret
  exact ⟨rfl, rfl⟩
theorem recInterest_ok (he : r.ended = false) (hn : r.waiters.length < 4611686018427387904) (s : St w0 w (recA q r :: L)) : Calls Try.prog 91 #[ptr q] w fun e w' => e = .returned (int r.interest) ∧ w = w' := by
  obtain ⟨v, s⟩ := s.recOpen
  have hc := s.cell
  simp only [recCells, he] at hc
  rcases s.swap.rowOpen with ⟨rfl, hl, _, _⟩ | ⟨g, cap, sp, rfl, _⟩
  all_goals
    go_enter Try.func91, Try.ntmps91
    cases hk : r.kept <;> simp only [hk] at hc <;>
    (go_wp2; go_ret; exact ⟨by simp_all [Rec.interest], rfl⟩)
theorem recLook_ok (he : r.ended = false) (hn : r.waiters.length < 4611686018427387904) (s : St w0 w (recA q r :: L)) : Calls Try.prog 71 #[ptr q] w fun e w' => e = .returned (.bool r.look.2) ∧ St w0 w' (recA q r.look.1 :: L) := by
  have hin := recInterest_ok he hn s
  obtain ⟨v, s1⟩ := s.recOpen
  have hc := s1.cell
  have hf := s1.free
  simp only [recCells] at hc
  go_enter Try.func71, Try.ntmps71
  go_wp2_with fail
  refine hin.mono ?_
  rintro e w' ⟨rfl, rfl⟩
  by_cases h1 : r.interest = 0
  · cases h2 : r.cancelled
    · simp only [h1, h2] at hc ⊢
      go_wp2
      go_ret
      refine ⟨by simp [Rec.look, h1, h2], ?_⟩
      simp only [Rec.look, h1, h2, and_self, if_true]
      exact St.recShut (v := v) (s1.setCell 7 (.bool true))
    · simp only [h1, h2] at hc ⊢
      go_wp2
      go_ret
      exact ⟨by simp [Rec.look, h1, h2], by simpa [Rec.look, h1, h2] using s⟩
  · have h3 : (0 : Int) < (r.interest : Int) := by omega
    go_wp2
    go_ret
    exact ⟨by simp [Rec.look, h1], by simpa [Rec.look, h1] using s⟩
theorem recRelease_ok (he : r.ended = false) (hn : r.waiters.length < 4611686018427387904) (s : St w0 w (recA q r :: L)) : Calls Try.prog 46 #[ptr q] w fun e w' => e = .returned (.bool r.release.2) ∧ St w0 w' (recA q r.release.1 :: L) := by
  obtain ⟨v, s1⟩ := s.recOpen
  have hc := s1.cell
  have hf := s1.free
  simp only [recCells, he] at hc
  cases hk : r.kept
  · simp only [hk] at hc
    go_enter Try.func46, Try.ntmps46
    go_wp2
    go_ret
    exact ⟨by simp [Rec.release, hk], by simpa [Rec.release, hk] using s⟩
  · simp only [hk] at hc
    go_enter Try.func46, Try.ntmps46
    go_wp2_with fail
    have s2 : St w0 (w.setCell ⟨q, 6, none⟩ (.bool false)) (recA q { r with kept := false } :: L) := St.recShut (v := v) (s1.setCell 6 (.bool false))
    refine (recLook_ok (r := { r with kept := false }) he hn s2).mono ?_
    rintro e w' ⟨rfl, s3⟩
    go_wp2
    go_ret
    refine ⟨by simp [Rec.release, hk, he], by simpa [Rec.release, hk] using s3⟩
theorem idxOf_neg {xs : List Int} {c : Int} (h : c ∉ xs) : Lib.idxOf xs c = -1 := by
  have : ∀ (l : List Int) (i : Nat), c ∉ l → Lib.idxFrom l c i = -1 := by
    intro l
    induction l with
    | nil => intro i _; rfl
    | cons x l ih =>
      intro i h
      simp only [List.mem_cons, not_or] at h
      have : ¬ x = c := fun e => h.1 e.symm
      simp [Lib.idxFrom, this, ih (i + 1) h.2]
  exact this xs 0 h
theorem idxOf_pos {xs : List Int} {c : Int} (h : c ∈ xs) : ∃ i, i < xs.length ∧ Lib.idxOf xs c = (i : Int) ∧ xs.eraseIdx i = xs.erase c := by
  have : ∀ (l : List Int) (k : Nat), c ∈ l → ∃ i, i < l.length ∧ Lib.idxFrom l c k = ((k + i : Nat) : Int) ∧ l.eraseIdx i = l.erase c := by
    intro l
    induction l with
    | nil => intro k h; cases h
    | cons x l ih =>
      intro k h
      by_cases hx : x = c
      · exact ⟨0, by simp, by simp [Lib.idxFrom, hx], by simp [hx]⟩
      · have hm : c ∈ l := by
          rcases List.mem_cons.1 h with e | e
          · exact absurd e.symm hx
          · exact e
        obtain ⟨i, h1, h2, h3⟩ := ih (k + 1) hm
        refine ⟨i + 1, by simp; omega, ?_, ?_⟩
        · rw [Lib.idxFrom, if_neg hx, h2]; congr 1; omega
        · rw [List.erase_cons_tail (by simpa using hx), List.eraseIdx_cons_succ, h3]
  simpa [Lib.idxOf] using this xs 0 h
set_option maxRecDepth 100000 in
theorem recJoin_ok (c : Int) (he : r.ended = false) (hn : (r.waiters.length + 1) * 8 ≤ 140737488355328) (s : St w0 w (recA q r :: L)) : Calls Try.prog 43 #[ptr q, int c] w fun e w' => e = .returned (int (r.join c).2) ∧ St w0 w' (recA q (r.join c).1 :: L) := by
  have hwt := recWaits_ok c s
  obtain ⟨v, s1⟩ := s.recOpen
  have hc := s1.cell
  have hlt := s1.lt
  simp only [recCells, he] at hc
  by_cases h1 : c < 1
  · go_enter Try.func43, Try.ntmps43
    go_wp2
    go_ret
    exact ⟨by simp [Rec.join, h1], by simpa [Rec.join, h1] using s⟩
  cases h2 : r.cancelled
  · simp only [h2] at hc
    by_cases h3 : c ∈ r.waiters
    · simp only [h3] at hwt
      go_enter Try.func43, Try.ntmps43
      go_wp2_with (first | (go_at_call 68; refine hwt.mono ?_; rintro e w' ⟨rfl, rfl⟩))
      go_ret
      have h1 : ¬ c < 1 := by omega
      exact ⟨by simp [Rec.join, h1, h2, h3], by simpa [Rec.join, h1, h2, h3] using s⟩
    · simp only [h3] at hwt
      go_enter Try.func43, Try.ntmps43
      go_wp2_with (first
        | (go_at_call 68; refine hwt.mono ?_; rintro e w' ⟨rfl, rfl⟩)
        | (at_builtin; refine wpList_push (size := 1) rfl _ _ 55 rfl _ _ 8 Try.underlying55 (by rfl) rfl rfl rfl rfl (by decide) (s1.swap.ext (belNew w _)) rfl _ _ [int c] rfl rfl (cell_one_new _ _ _) (by simp; rfl) hn (by decide) ?_
           intro ad' c' w' s2
           have s3 := s2.swap
           have hf := s3.free
           clear hc
           have hc := s3.cell
           simp only [recCells] at hc))
      go_ret
      have h1 : ¬ c < 1 := by omega
      refine ⟨by simp [Rec.join, h1, h2, h3], ?_⟩
      have hj : (r.join c).1 = { r with waiters := r.waiters ++ [c] } := by simp [Rec.join, h1, h2, h3]
      rw [hj]
      refine St.recShut (v := .slice ad' (r.waiters.length + 1) c') ?_
      rw [List.length_append, List.map_append]
      exact s3.setCell 5 (.slice ad' (r.waiters.length + 1) c')
  · simp only [h2] at hc
    go_enter Try.func43, Try.ntmps43
    go_wp2
    go_ret
    have h1 : ¬ c < 1 := by omega
    exact ⟨by simp [Rec.join, h1, h2], by simpa [Rec.join, h1, h2] using s⟩
theorem recWaiters_ok (hn : r.waiters.length * 8 ≤ 140737488355328) (s : St w0 w (recA q r :: L)) : Calls Try.prog 53 #[ptr q] w fun e w' => ∃ v, e = .returned v ∧ Below w.heap.size w w' ∧ St w0 w' (rowA 3 1 v r.waiters.length (r.waiters.map int) :: recA q r :: L) := by
  obtain ⟨v, s1⟩ := s.recOpen
  have hc := s1.cell
  simp only [recCells] at hc
  go_enter Try.func53, Try.ntmps53
  go_wp2_with fail
  refine (St.clone s1.swap hn).mono ?_
  rintro e w' ⟨v', rfl, hb, hs⟩
  go_wp2
  go_ret
  exact ⟨v', rfl, hb, hs s⟩
set_option maxRecDepth 100000 in
theorem recLeave_ok (c : Int) (he : r.ended = false) (hn : r.waiters.length < 4611686018427387904) (s : St w0 w (recA q r :: L)) : Calls Try.prog 44 #[ptr q, int c] w fun e w' => e = .returned (.tuple #[.bool (r.leave c).2.1, int (r.leave c).2.2]) ∧ St w0 w' (recA q (r.leave c).1 :: L) := by
  obtain ⟨v, s1⟩ := s.recOpen
  have hix := St.index s1.swap c
  have hc := s1.cell
  simp only [recCells, he] at hc
  by_cases h1 : c ∈ r.waiters
  · obtain ⟨i, hi, hi2, hi3⟩ := idxOf_pos h1
    have hd := St.delete s1.swap i hi
    have g1 : ¬ (i : Int) < 0 := by omega
    rw [hi2] at hix
    rw [hi3] at hd
    clear hi2 hi3
    have hlen : (r.waiters.erase c).length < 4611686018427387904 := Nat.lt_of_le_of_lt List.length_erase_le hn
    generalize hws : r.waiters.erase c = ws at hd hlen
    go_enter Try.func44, Try.ntmps44
    go_wp2_with (first
      | (go_at_call 69; refine hix.mono ?_; rintro e w' ⟨rfl, rfl⟩)
      | (go_at_call 70; refine hd.mono ?_; rintro e w' ⟨v', rfl, s2⟩; obtain ⟨ad', c', rfl⟩ := s2.rowShape; clear hc; have hc := s2.swap.cell; have hf := s2.swap.free; simp only [recCells] at hc)
      | fail)
    have s3 : St w0 (w'.setCell ⟨q, 5, none⟩ (.slice ad' (ws).length c')) (recA q { r with waiters := ws } :: L) := St.recShut (s2.swap.setCell 5 (.slice ad' (ws).length c'))
    refine (recLook_ok (r := { r with waiters := ws }) he hlen s3).mono ?_
    rintro e w' ⟨rfl, s4⟩
    go_wp2
    go_ret2
    have hj : r.leave c = (({ r with waiters := r.waiters.erase c } : Rec).look.1, ({ r with waiters := r.waiters.erase c } : Rec).look.2, 0) := by simp [Rec.leave, h1]
    rw [hj, hws]
    exact ⟨by simp [he], s4⟩
  · rw [idxOf_neg h1] at hix
    go_enter Try.func44, Try.ntmps44
    go_wp2_with (first | (go_at_call 69; refine hix.mono ?_; rintro e w' ⟨rfl, rfl⟩))
    go_ret2
    have hj : r.leave c = (r, false, 112) := by simp [Rec.leave, h1]
    rw [hj]
    exact ⟨rfl, s⟩
end Ytfhfkfnffajciaa
end Go.Proofs
