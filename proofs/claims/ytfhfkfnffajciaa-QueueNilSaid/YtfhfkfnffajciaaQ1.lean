/- Queues by turn. -/
import Derived.Test.YtfhfkfnffajciaaKey
import Derived.Test.YtfhfkfnffajciaaRow2
import Derived.Test.YtfhfkfnffajciaaMap2
namespace Go.Proofs
open Go.RowKit Go.Proofs.Ytfhfkfnffajciaa
namespace Ytfhfkfnffajciaa
variable {w0 w : World} {L : List Asn} {p : Nat}
structure Turns where
  tat : List (Int × Int)
  items : List (Int × Int)
  fr : Int
  to : Int
def turnsParts (p a b : Nat) (q : Turns) : List Asn := [cells p [.map (some a), .map (some b), .int .i64 q.fr, .int .i64 q.to] 111, mapA (Value.int .i64) (Value.int .i64) a q.tat, mapA (Value.int .i64) (Value.int .i64) b q.items]
def turnsA (p : Nat) (q : Turns) : Asn := exA fun (a : Nat) => exA fun (b : Nat) => Star (turnsParts p a b q)
theorem St.turnsOpen {q : Turns} (s : St w0 w (turnsA p q :: L)) : ∃ a b, St w0 w (turnsParts p a b q ++ L) := by
  obtain ⟨a, s⟩ := St.ex.1 s
  obtain ⟨b, s⟩ := St.ex.1 s
  exact ⟨a, b, St.many.1 s⟩
theorem St.turnsShut {q : Turns} {a b : Nat} (s : St w0 w (turnsParts p a b q ++ L)) : St w0 w (turnsA p q :: L) := St.ex.2 ⟨a, St.ex.2 ⟨b, St.many.2 s⟩⟩
theorem zeroInt' (w : World) : (zeroValue 3).run Try.prog w = .ok (.int .i64 0) w := by kernel_rfl

theorem newTurns_ok (s : St w0 w L) : Calls Try.prog 62 #[] w fun e w' => ∃ p, e = .returned (.pointer (some ⟨p, 0, none⟩)) ∧ St w0 w' (turnsA p ⟨[], [], 0, 0⟩ :: L) := by
  have hmm := @run_makeMap Try.prog
  go_enter Try.func62, Try.ntmps62
  go_wp2
  go_ret
  refine ⟨_, rfl, ?_⟩
  have s4 := (((s.mapNew (K := Int) (V := Int) (enc := Value.int .i64) (venc := Value.int .i64)).mapNew (K := Int) (V := Int) (enc := Value.int .i64) (venc := Value.int .i64)).allocCells
    [.map (some w.heap.size), .map (some (w.heap.size + 1)), .int .i64 0, .int .i64 0] 111)
  simp only [World.size_alloc] at s4
  refine St.turnsShut (a := w.heap.size) (b := w.heap.size + 1) ?_
  exact s4.sort [0, 2, 1] rfl
theorem turnsHas_ok {q : Turns} (k : Int) (s : St w0 w (turnsA p q :: L)) : Calls Try.prog 34 #[.pointer (some ⟨p, 0, none⟩), .int .i64 k] w fun e w' => e = .returned (.bool (aget q.tat k).isSome) ∧ w = w' := by
  obtain ⟨a, b, s⟩ := s.turnsOpen
  have hc := s.cell
  have s2 := s.sort [1, 0] rfl
  have hl := s2.lookupAt intTy Try.underlying109 zeroInt' k
  simp only [orZ_int] at hl
  go_enter Try.func34, Try.ntmps34
  go_wp2
  go_ret
  exact ⟨rfl, rfl⟩
set_option maxRecDepth 100000 in
set_option maxHeartbeats 1000000 in
theorem turnsPut_ok {q : Turns} (k : Int) (h1 : aget q.tat k = none) (h2 : q.tat.length < 65536) (h3 : 0 ≤ q.to) (h4 : q.to < 4611686018427387904) (s : St w0 w (turnsA p q :: L)) :
    Calls Try.prog 30 #[.pointer (some ⟨p, 0, none⟩), .int .i64 k] w fun e w' => e = .returned (.int .i64 0) ∧ St w0 w' (turnsA p ⟨aput q.tat k q.to, aput q.items q.to k, q.fr, q.to + 1⟩ :: L) := by
  have hhas := turnsHas_ok k s
  rw [h1] at hhas
  obtain ⟨a, b, s⟩ := s.turnsOpen
  have g3 : decide ((q.tat.length : Int) ≥ 65536) = false := by simp; omega
  obtain ⟨M, HM⟩ := named (turnsParts p a b q ++ L)
  have kp : ∀ W, St w0 W M → ∀ i, W.cell? ⟨p, i, none⟩ = [.map (some a), .map (some b), .int .i64 q.fr, .int .i64 q.to][i]? := fun W h => (h.of HM).cell
  have kn := fun W (h : St w0 W M) => ((h.of HM).sort [1, 0] rfl).mapLen Try.underlying109
  have s1 := s.to HM
  clear h1
  go_enter Try.func30, Try.ntmps30
  go_wp2_with (first | (go_at_call 34; refine hhas.mono ?_; rintro e w1 ⟨rfl, rfl⟩))
  clear kp kn s1 hhas
  obtain ⟨S0, HS⟩ := named [cells p [.map (some a), .map (some b), .int .i64 q.fr, .int .i64 q.to] 111]
  have kp : ∀ W, St w0 W S0 → ∀ i, W.cell? ⟨p, i, none⟩ = [.map (some a), .map (some b), .int .i64 q.fr, .int .i64 q.to][i]? := fun W h => (h.of HS).cell
  have s6 : St w0 w S0 := St.to HS (St.front 1 s)
  have s7 := s.sort [1, 0] rfl
  clear s
  go_region_held3 (fun W => St w0 W S0) (first | assumption | exact St.drew (by assumption))
    (first
      | (refine upon_mapEntry intTy Try.underlying109 zeroInt' s7.drew k rfl ?_; intro v1 n1 w7 s8; have s9 : St w0 w7 S0 := St.to HS (St.front 1 (s8.sort [1, 0] rfl)); clear s7)
      | (refine upon_entryStore k n1 s8 q.to rfl ?_; intro w8 s10; have s11 : St w0 w8 S0 := St.to HS (St.front 1 (s10.sort [1, 0] rfl)); clear s8)
      | (refine upon_mapEntry intTy Try.underlying109 zeroInt' (s10.sort [2, 0, 1] rfl) q.to rfl ?_; intro v2 n2 w9 s12; have s13 : St w0 w9 S0 := St.to HS (St.front 1 (s12.sort [2, 0, 1] rfl)); clear s10)
      | (refine upon_entryStore q.to n2 s12 k rfl ?_; intro w10 s14; have s15 : St w0 w10 S0 := St.to HS (St.front 1 (s14.sort [2, 0, 1] rfl)); clear s12))
  have s16 := s14.sort [2, 0, 1] rfl
  have kc := s16.cell
  have kf := s16.free
  clear kp s14
  go_wp2
  go_ret
  have s17 := s16.setCell 3 (.int .i64 (q.to + 1))
  exact ⟨rfl, St.turnsShut (a := a) (b := b) (s17.sort [0, 2, 1] rfl)⟩
end Ytfhfkfnffajciaa
end Go.Proofs
