/- Tables: Join, Cancelled, Run, Waiters, IsCurrent. -/
import Derived.Test.YtfhfkfnffajciaaTab3
import Derived.Test.YtfhfkfnffajciaaTn
namespace Go.Proofs
open Go.RowKit Go.Proofs.Ytfhfkfnffajciaa

namespace Ytfhfkfnffajciaa
variable {w0 w : World} {L : List Asn} {p q : Nat} {t : Tab} {r : Rec} {n : Int}

def RecOk (n : Int) (r : Rec) : Prop := r.ended = false ∧ r.run.run = n ∧ (r.waiters.length + 1) * 40 ≤ 140737488355328
def Tab.cancelled (t : Tab) (n : Int) : Bool := match aget t.runs n with | some x => x.2.cancelled | none => false
def Tab.join (t : Tab) (n c : Int) : Tab × Int := match aget t.runs n with | some x => ({ t with runs := amod t.runs n fun y => (y.1, (y.2.join c).1) }, (x.2.join c).2) | none => (t, 122)
def Tab.isCur (t : Tab) (n : Int) : Bool := match aget t.runs n with | some x => decide ((aget t.cur x.2.run.key).getD 0 = n) | none => false
def noRun : Run := ⟨0, ⟨0, ByteArray.empty⟩, 0, false⟩
def Tab.run (t : Tab) (n : Int) : Run := match aget t.runs n with | some x => x.2.run | none => noRun
def Tab.waiters (t : Tab) (n : Int) : List Int := match aget t.runs n with | some x => x.2.waiters | none => []

theorem nilRec_Cancelled (w : World) : Calls Try.prog 42 #[.pointer none] w fun e w' => e = .returned (.bool false) ∧ w = w' := by
  go_enter Try.func42, Try.ntmps42
  go_wp2
  go_ret
  exact ⟨rfl, rfl⟩
theorem nilRec_Waiters (w : World) : Calls Try.prog 53 #[.pointer none] w fun e w' => e = .returned (.slice none 0 0) ∧ w = w' := by
  go_enter Try.func53, Try.ntmps53
  go_wp2
  go_ret
  exact ⟨rfl, rfl⟩
set_option maxRecDepth 100000 in
theorem tabCancelled_ok (n : Int) (s : St w0 w (tabA p t :: L)) : Calls Try.prog 8 #[ptr p, int n] w fun e w' => e = .returned (.bool (t.cancelled n)) ∧ w = w' := by
  have hg := get_ok n s
  cases h : aget t.runs n with
  | none =>
    simp only [h, ptrOf] at hg
    have hv : t.cancelled n = false := by simp [Tab.cancelled, h]
    rw [hv]
    clear hv
    go_enter Try.func8, Try.ntmps8
    go_wp2_with (first | (go_at_call 41; refine hg.mono ?_; rintro e w' ⟨rfl, rfl⟩) | (go_at_call 42; refine (nilRec_Cancelled _).mono ?_; rintro e w' ⟨rfl, rfl⟩))
    go_ret
    exact ⟨rfl, rfl⟩
  | some x =>
    obtain ⟨q, r⟩ := x
    simp only [h, ptrOf] at hg
    obtain ⟨rb, cb, gb, R, s1, _, _⟩ := s.tabAt h
    have hcl := recCancelled_ok s1
    have hv : t.cancelled n = r.cancelled := by simp [Tab.cancelled, h]
    rw [hv]
    clear hv
    go_enter Try.func8, Try.ntmps8
    go_wp2_with (first | (go_at_call 41; refine hg.mono ?_; rintro e w' ⟨rfl, rfl⟩) | (go_at_call 42; refine hcl.mono ?_; rintro e w' ⟨rfl, rfl⟩))
    go_ret
    exact ⟨rfl, rfl⟩
set_option maxRecDepth 100000 in
theorem tabJoin_ok (n c : Int) (hok : ∀ x, aget t.runs n = some x → RecOk n x.2) (s : St w0 w (tabA p t :: L)) : Calls Try.prog 11 #[ptr p, int n, int c] w fun e w' => e = .returned (int (t.join n c).2) ∧ St w0 w' (tabA p (t.join n c).1 :: L) := by
  have hg := get_ok n s
  cases h : aget t.runs n with
  | none =>
    simp only [h, ptrOf] at hg
    have hv : t.join n c = (t, 122) := by simp [Tab.join, h]
    rw [hv]
    clear hv hok
    go_enter Try.func11, Try.ntmps11
    go_wp2_with (first | (go_at_call 41; refine hg.mono ?_; rintro e w' ⟨rfl, rfl⟩))
    go_ret
    exact ⟨rfl, s⟩
  | some x =>
    obtain ⟨q, r⟩ := x
    simp only [h, ptrOf] at hg
    obtain ⟨k1, k2, k3⟩ : RecOk n r := hok _ h
    obtain ⟨rb, cb, gb, R, s1, hput, _⟩ := s.tabAt h
    have hj := recJoin_ok c k1 (by omega) s1
    have hv : t.join n c = ({ t with runs := amod t.runs n fun y => (y.1, (y.2.join c).1) }, (r.join c).2) := by simp [Tab.join, h]
    rw [hv]
    clear hv hok k1 k2 k3 h
    generalize (r.join c).2 = f at hj
    go_enter Try.func11, Try.ntmps11
    go_wp2_with (first | (go_at_call 41; refine hg.mono ?_; rintro e w' ⟨rfl, rfl⟩) | (go_at_call 43; refine hj.mono ?_; rintro e w' ⟨rfl, s2⟩))
    go_ret
    exact ⟨rfl, hput (fun y => (y.join c).1) _ _ _ s2⟩
set_option maxRecDepth 100000 in
set_option maxHeartbeats 2000000 in
theorem tabRun_ok (n : Int) (s : St w0 w (tabA p t :: L)) : Calls Try.prog 18 #[ptr p, int n] w fun e w' => e = .returned (.tuple #[runV (t.run n), .bool (aget t.runs n).isSome]) ∧ Below w.heap.size w w' := by
  have hg := fun W (hb : Below w.heap.size w W) => get_ok n (s.ext hb)
  have hb0 := belNew w (.cells #[.int .i64 0, .int .u16 0, .string ByteArray.empty, .int .i64 0, .bool false] 58)
  cases h : aget t.runs n with
  | none =>
    simp only [h, ptrOf] at hg
    have hv : t.run n = noRun := by simp [Tab.run, h]
    rw [hv]
    clear hv
    simp only [runV, noRun, Option.isSome_none]
    go_enter Try.func18, Try.ntmps18
    go_wp2_with (first | (go_at_call 41; refine (hg _ hb0).mono ?_; rintro e w' ⟨rfl, rfl⟩) | (go_at_call 49; refine (Ytfhfkfnffajciaa.nil_recRun _).mono ?_; rintro e w' ⟨rfl, rfl⟩))
    exact bodyPost_ret (v := .tuple #[.agg #[.int .i64 0, .int .u16 0, .string ByteArray.empty, .int .i64 0, .bool false], .bool false]) (by simp [results, Try.results18, go_sem]) rfl ⟨rfl, hb0.alloc (by simp) _⟩
  | some x =>
    obtain ⟨q, r⟩ := x
    simp only [h, ptrOf] at hg
    have sA := s.allocCells [.int .i64 0, .int .u16 0, .string ByteArray.empty, .int .i64 0, .bool false] 58
    obtain ⟨rb, cb, gb, R, s1, _, _⟩ := sA.swap.tabAt h
    have hcl := recRun_ok s1
    have hv : t.run n = r.run := by simp [Tab.run, h]
    rw [hv]
    clear hv
    simp only [runV] at hcl ⊢
    go_enter Try.func18, Try.ntmps18
    go_wp2_with (first | (go_at_call 41; refine (hg _ hb0).mono ?_; rintro e w' ⟨rfl, rfl⟩) | (go_at_call 49; refine hcl.mono ?_; rintro e w' ⟨rfl, hb⟩; have hcr := (sA.ext hb).cell; have hfr := (sA.ext hb).free))
    exact bodyPost_ret (v := .tuple #[.agg #[int r.run.run, .int .u16 r.run.key.space, .string r.run.key.name, int r.run.gen, .bool r.run.refresh], .bool true]) (by simp [results, Try.results18, go_sem, hcr]) rfl ⟨rfl, ((hb0.trans (hb.mono (by simp)))).setCell (by simp) _ |>.setCell (by simp) _ |>.setCell (by simp) _ |>.setCell (by simp) _ |>.setCell (by simp) _⟩
end Ytfhfkfnffajciaa
end Go.Proofs
