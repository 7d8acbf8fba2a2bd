/- Tables: Leave, Release. -/
import Derived.Test.YtfhfkfnffajciaaTab5
namespace Go.Proofs
open Go.RowKit Go.Proofs.Ytfhfkfnffajciaa

namespace Ytfhfkfnffajciaa
variable {w0 w : World} {L : List Asn} {p q : Nat} {t : Tab} {r : Rec} {n : Int}

def GenOk (t : Tab) : Prop := ∀ k, 0 ≤ (aget t.gens k).getD 0 ∧ (aget t.gens k).getD 0 < 4611686018427387904
theorem tabLeft_ok (n : Int) (c : Bool) (h : aget t.runs n = some (q, r)) (hrn : r.run.run = n) (hg : GenOk t) (s : St w0 w (tabA p t :: L)) :
    Calls Try.prog 45 #[ptr p, ptr q, .bool c] w fun e w' => e = .returned (.agg #[.bool c, .bool (c && t.isCur n)]) ∧ St w0 w' (tabA p (t.left n c) :: L) := by
  cases hc : (c && t.isCur n)
  · have hv : t.left n c = t := by simp [Tab.left, hc]
    rw [hv]
    exact tabLeft_no n c h hrn hc s
  · have hv : t.left n c = { t with gens := aput t.gens r.run.key ((aget t.gens r.run.key).getD 0 + 1), cur := adel t.cur r.run.key } := by
      have hr : t.run n = r.run := by simp [Tab.run, h]
      simp [Tab.left, hc, hr]
    rw [hv]
    simp only [Bool.and_eq_true] at hc
    obtain ⟨rfl, hc⟩ := hc
    exact tabLeft_yes n h hrn hc (hg _).1 (hg _).2 s
def Tab.leave (t : Tab) (n c : Int) : Tab × Bool × Bool × Int := match aget t.runs n with
  | none => (t, false, false, 122)
  | some x => if (x.2.leave c).2.2 = 0 then
      (({ t with runs := amod t.runs n fun y => (y.1, (y.2.leave c).1) } : Tab).left n (x.2.leave c).2.1, (x.2.leave c).2.1, (x.2.leave c).2.1 && ({ t with runs := amod t.runs n fun y => (y.1, (y.2.leave c).1) } : Tab).isCur n, 0)
    else (t, false, false, (x.2.leave c).2.2)
def Tab.release (t : Tab) (n : Int) : Tab × Bool × Bool × Int := match aget t.runs n with
  | none => (t, false, false, 122)
  | some x => (({ t with runs := amod t.runs n fun y => (y.1, y.2.release.1) } : Tab).left n x.2.release.2, x.2.release.2, x.2.release.2 && ({ t with runs := amod t.runs n fun y => (y.1, y.2.release.1) } : Tab).isCur n, 0)
theorem Rec.look_run (r : Rec) : r.look.1.run = r.run := by unfold Rec.look; split <;> rfl
theorem Rec.leave_run (r : Rec) (c : Int) : (r.leave c).1.run = r.run := by unfold Rec.leave; split <;> simp [Rec.look_run]
theorem Rec.release_run (r : Rec) : r.release.1.run = r.run := by unfold Rec.release; split <;> simp [Rec.look_run]
theorem Rec.leave_no (r : Rec) (c : Int) (h : (r.leave c).2.2 ≠ 0) : (r.leave c).1 = r ∧ (r.leave c).2.2 = 112 := by
  unfold Rec.leave at h ⊢
  split <;> simp_all
theorem amod_id {m : List (Int × Nat × Rec)} {n : Int} {q : Nat} {r : Rec} {f : Rec → Rec} (hn : (akeys m).Nodup) (h : aget m n = some (q, r)) (hf : f r = r) : amod m n (fun x => (x.1, f x.2)) = m := by
  obtain ⟨p, q', rfl, h1, h2⟩ := aget_split hn h
  rw [amod_mid _ _ _ _ _ h1 h2]; simp [hf]
set_option maxRecDepth 100000 in
set_option maxHeartbeats 2000000 in
theorem tabLeave_ok (n c : Int) (hok : ∀ x, aget t.runs n = some x → RecOk n x.2) (hg : GenOk t) (s : St w0 w (tabA p t :: L)) :
    Calls Try.prog 12 #[ptr p, int n, int c] w fun e w' => e = .returned (.tuple #[.agg #[.bool (t.leave n c).2.1, .bool (t.leave n c).2.2.1], int (t.leave n c).2.2.2]) ∧ St w0 w' (tabA p (t.leave n c).1 :: L) := by
  have hgt := fun W (hb : Below w.heap.size w W) => get_ok n (s.ext hb)
  have hb0 := belNew w (.cells #[.bool false, .bool false] 43)
  cases h : aget t.runs n with
  | none =>
    simp only [h, ptrOf] at hgt
    have hv : t.leave n c = (t, false, false, 122) := by simp [Tab.leave, h]
    rw [hv]
    clear hv hok hg
    go_enter Try.func12, Try.ntmps12
    go_wp2_with (first | (go_at_call 41; refine (hgt _ hb0).mono ?_; rintro e w' ⟨rfl, rfl⟩))
    exact bodyPost_ret (v := .tuple #[.agg #[.bool false, .bool false], int 122]) (by simp [results, Try.results12, go_sem]) rfl ⟨rfl, s.ext hb0⟩
  | some x =>
    obtain ⟨q, r⟩ := x
    simp only [h, ptrOf] at hgt
    obtain ⟨k1, k2, k3⟩ : RecOk n r := hok _ h
    have sA := s.allocCells [.bool false, .bool false] 43
    have hnd : (akeys t.runs).Nodup := by
      obtain ⟨rb, cb, gb, s⟩ := s.tabOpen
      exact (s.sort [1, 0] rfl).nodup
    obtain ⟨rb, cb, gb, R, s1, hput, _⟩ := sA.swap.tabAt h
    have hj := recLeave_ok c k1 (by omega) s1
    by_cases he : (r.leave c).2.2 = 0
    · have hv : t.leave n c = (({ t with runs := amod t.runs n fun y => (y.1, (y.2.leave c).1) } : Tab).left n (r.leave c).2.1, (r.leave c).2.1, (r.leave c).2.1 && ({ t with runs := amod t.runs n fun y => (y.1, (y.2.leave c).1) } : Tab).isCur n, 0) := by
        simp [Tab.leave, h, he]
      rw [hv]
      have hget : aget (amod t.runs n fun y => (y.1, (y.2.leave c).1)) n = some (q, (r.leave c).1) := by rw [aget_amod, if_pos rfl, h]; rfl
      have hlf := fun {W : World} (hS : St w0 W (tabA p { t with runs := amod t.runs n fun y => (y.1, (y.2.leave c).1) } :: cells w.heap.size [.bool false, .bool false] 43 :: L)) =>
        tabLeft_ok (t := { t with runs := amod t.runs n fun y => (y.1, (y.2.leave c).1) }) n (r.leave c).2.1 hget ((congrArg Run.run (Rec.leave_run r c)).trans k2) hg hS
      rw [he] at hj
      generalize ((r.leave c).2.1 && ({ t with runs := amod t.runs n fun y => (y.1, (y.2.leave c).1) } : Tab).isCur n) = ab at hlf ⊢
      generalize ({ t with runs := amod t.runs n fun y => (y.1, (y.2.leave c).1) } : Tab).left n (r.leave c).2.1 = t2 at hlf ⊢
      generalize (r.leave c).2.1 = cc at hlf hj ⊢
      clear hv hok hget k1 k2 k3 h he hnd sA s1
      go_enter Try.func12, Try.ntmps12
      go_wp2_with (first
        | (go_at_call 41; refine (hgt _ hb0).mono ?_; rintro e w' ⟨rfl, rfl⟩)
        | (go_at_call 44; refine hj.mono ?_; rintro e w' ⟨rfl, s2⟩)
        | fail)
      have s3 := hput (fun y => (y.leave c).1) _ _ _ s2
      clear s2 hput hj
      refine (hlf s3).mono ?_
      rintro e w3 ⟨rfl, s4⟩
      have hc6 := s4.swap.cell
      have hf6 := s4.swap.free
      clear hlf s3
      go_wp2
      have s5 := (s4.swap.setCell 0 (.bool cc)).setCell 1 (.bool ab)
      exact bodyPost_ret (v := .tuple #[.agg #[.bool cc, .bool ab], int 0]) (by simp [results, Try.results12, go_sem, hc6]) rfl ⟨rfl, s5.drop⟩
    · obtain ⟨e1, e2⟩ := Rec.leave_no r c he
      have hv : t.leave n c = (t, false, false, 112) := by simp [Tab.leave, h, e2]
      rw [hv]
      rw [e2] at hj
      have hid := amod_id (f := fun y => (y.leave c).1) hnd h e1
      generalize (r.leave c).2.1 = cc at hj
      clear hv hok k1 k2 k3 h he hnd sA s1 e2
      go_enter Try.func12, Try.ntmps12
      go_wp2_with (first
        | (go_at_call 41; refine (hgt _ hb0).mono ?_; rintro e w' ⟨rfl, rfl⟩)
        | (go_at_call 44; refine hj.mono ?_; rintro e w' ⟨rfl, s2⟩; have s3 := hput (fun y => (y.leave c).1) _ _ _ s2; have hc6 := s3.swap.cell; have hf6 := s3.swap.free))
      have s5 := (s3.swap.setCell 0 (.bool false)).setCell 1 (.bool false)
      rw [hid] at s5
      exact bodyPost_ret (v := .tuple #[.agg #[.bool false, .bool false], int 112]) (by simp [results, Try.results12, go_sem, hc6]) rfl ⟨rfl, s5.drop⟩
set_option maxRecDepth 100000 in
set_option maxHeartbeats 2000000 in
theorem tabRelease_ok (n : Int) (hok : ∀ x, aget t.runs n = some x → RecOk n x.2) (hg : GenOk t) (s : St w0 w (tabA p t :: L)) :
    Calls Try.prog 13 #[ptr p, int n] w fun e w' => e = .returned (.tuple #[.agg #[.bool (t.release n).2.1, .bool (t.release n).2.2.1], int (t.release n).2.2.2]) ∧ St w0 w' (tabA p (t.release n).1 :: L) := by
  have hgt := fun W (hb : Below w.heap.size w W) => get_ok n (s.ext hb)
  have hb0 := belNew w (.cells #[.bool false, .bool false] 43)
  cases h : aget t.runs n with
  | none =>
    simp only [h, ptrOf] at hgt
    have hv : t.release n = (t, false, false, 122) := by simp [Tab.release, h]
    rw [hv]
    clear hv hok hg
    go_enter Try.func13, Try.ntmps13
    go_wp2_with (first | (go_at_call 41; refine (hgt _ hb0).mono ?_; rintro e w' ⟨rfl, rfl⟩))
    exact bodyPost_ret (v := .tuple #[.agg #[.bool false, .bool false], int 122]) (by simp [results, Try.results13, go_sem]) rfl ⟨rfl, s.ext hb0⟩
  | some x =>
    obtain ⟨q, r⟩ := x
    simp only [h, ptrOf] at hgt
    obtain ⟨k1, k2, k3⟩ : RecOk n r := hok _ h
    have sA := s.allocCells [.bool false, .bool false] 43
    obtain ⟨rb, cb, gb, R, s1, hput, _⟩ := sA.swap.tabAt h
    have hj := recRelease_ok k1 (by omega) s1
    have hv : t.release n = (({ t with runs := amod t.runs n fun y => (y.1, y.2.release.1) } : Tab).left n r.release.2, r.release.2, r.release.2 && ({ t with runs := amod t.runs n fun y => (y.1, y.2.release.1) } : Tab).isCur n, 0) := by
      simp [Tab.release, h]
    rw [hv]
    have hget : aget (amod t.runs n fun y => (y.1, y.2.release.1)) n = some (q, r.release.1) := by rw [aget_amod, if_pos rfl, h]; rfl
    have hlf := fun {W : World} (hS : St w0 W (tabA p { t with runs := amod t.runs n fun y => (y.1, y.2.release.1) } :: cells w.heap.size [.bool false, .bool false] 43 :: L)) =>
      tabLeft_ok (t := { t with runs := amod t.runs n fun y => (y.1, y.2.release.1) }) n r.release.2 hget ((congrArg Run.run (Rec.release_run r)).trans k2) hg hS
    generalize (r.release.2 && ({ t with runs := amod t.runs n fun y => (y.1, y.2.release.1) } : Tab).isCur n) = ab at hlf ⊢
    generalize ({ t with runs := amod t.runs n fun y => (y.1, y.2.release.1) } : Tab).left n r.release.2 = t2 at hlf ⊢
    generalize r.release.2 = cc at hlf hj ⊢
    clear hv hok hget k1 k2 k3 h sA s1
    go_enter Try.func13, Try.ntmps13
    go_wp2_with (first
      | (go_at_call 41; refine (hgt _ hb0).mono ?_; rintro e w' ⟨rfl, rfl⟩)
      | (go_at_call 46; refine hj.mono ?_; rintro e w' ⟨rfl, s2⟩)
      | fail)
    have s3 := hput (fun y => y.release.1) _ _ _ s2
    clear s2 hput hj
    refine (hlf s3).mono ?_
    rintro e w3 ⟨rfl, s4⟩
    have hc6 := s4.swap.cell
    have hf6 := s4.swap.free
    clear hlf s3
    go_wp2
    have s5 := (s4.swap.setCell 0 (.bool cc)).setCell 1 (.bool ab)
    exact bodyPost_ret (v := .tuple #[.agg #[.bool cc, .bool ab], int 0]) (by simp [results, Try.results13, go_sem, hc6]) rfl ⟨rfl, s5.drop⟩
end Ytfhfkfnffajciaa
end Go.Proofs
