/- Queues by time: the top, Next; and that queues are awake. -/
import Derived.Test.YtfhfkfnffajciaaQ1b
import Derived.Test.YtfhfkfnffajciaaQ2
import Derived.Test.YtfhfkfnffajciaaEqT
import Derived.BigRegion
namespace Go.Proofs
open Go.RowKit Go.Proofs.Ytfhfkfnffajciaa
namespace Ytfhfkfnffajciaa
variable {w0 w : World} {L : List Asn} {p : Nat}
set_option maxRecDepth 100000 in
set_option maxHeartbeats 1000000 in
theorem timesTop_one (at0 k : Int) (s : St w0 w (timesOne p at0 k :: L)) :
    Calls Try.prog 60 #[.pointer (some ⟨p, 0, none⟩)] w fun e w' => e = .returned (.tuple #[.agg #[.int .i64 at0, .int .i64 0, .int .i64 k], .bool true]) ∧ Below w.heap.size w w' := by
  obtain ⟨⟨mb, ad, c⟩, s⟩ := St.ex.1 s
  have s1 := St.many.1 s
  have hc := s1.cell
  have hlt := s1.lt
  have hl := (s1.sort [1, 0] rfl).lookupAt intTy Try.underlying120 zeroTimed k
  have hmb := (s1.sort [1, 0] rfl).mapLt
  simp only [aget_cons, if_true, orZ, tenc, Option.isSome_some] at hl
  rcases (s1.sort [2, 0, 1] rfl).rowOpen with ⟨hv, hv2, _⟩ | ⟨g, cap2, sp2, hv, _, _, _, _, hS4⟩
  · omega
  cases hv
  have hg := hS4.cell
  have hgl := hS4.lt
  have sA := (s1.allocCells [.int .i64 0, .int .i64 0, .int .i64 0] 113).allocCells [.int .i64 at0, .int .i64 0, .int .i64 k] 113
  simp only [World.size_alloc] at sA
  have hb0 := ((Below.refl w.heap.size w).alloc (Nat.le_refl _) (.cells #[.int .i64 0, .int .i64 0, .int .i64 0] 113)).alloc (by simp) (.cells #[.int .i64 at0, .int .i64 0, .int .i64 k] 113)
  clear s s1 hS4
  go_enter Try.func60, Try.ntmps60
  go_wp2
  refine wp_loop_rounds 1 ?_
  rw [rounds_succ]
  go_wp2
  obtain ⟨w5, hw5⟩ : ∃ w5, (w.alloc (.cells #[.int .i64 0, .int .i64 0, .int .i64 0] 113)).alloc (.cells #[.int .i64 at0, .int .i64 0, .int .i64 k] 113) = w5 := ⟨_, rfl⟩
  rw [hw5] at sA hb0 ⊢
  clear hw5 hc hlt hl hmb hg hgl
  obtain ⟨M, HM⟩ := named [cells (w.heap.size + 1) [.int .i64 at0, .int .i64 0, .int .i64 k] 113, cells w.heap.size [.int .i64 0, .int .i64 0, .int .i64 0] 113, cells p [.slice (some ⟨g, 0, none⟩) 1 c, .map (some mb), .int .i64 1] 122, mapA (Value.int .i64) tenc mb [(k, (at0, 0, k))]]
  have s5 : St w0 w5 M := St.to HM (St.front 4 sA)
  have k4 : ∀ W, St w0 W M → ∀ i, W.cell? ⟨w.heap.size + 1, i, none⟩ = [.int .i64 at0, .int .i64 0, .int .i64 k][i]? := fun W h => (h.of HM).cell
  have kp : ∀ W, St w0 W M → ∀ i, W.cell? ⟨p, i, none⟩ = [.slice (some ⟨g, 0, none⟩) 1 c, .map (some mb), .int .i64 1][i]? := fun W h => ((h.of HM).sort [2, 0, 1] rfl).cell
  have kl := fun W (h : St w0 W M) => ((h.of HM).sort [3, 0, 1, 2] rfl).lookup intTy Try.underlying120 zeroTimed k
  simp only [aget_cons, if_true, orZ, tenc, Option.isSome_some] at kl
  have k2 : ∀ W, St w0 W M → ∀ i, W.cell? ⟨w.heap.size, i, none⟩ = [.int .i64 0, .int .i64 0, .int .i64 0][i]? := fun W h => ((h.of HM).sort [1, 0] rfl).cell
  have f2 : ∀ W, St w0 W M → ∀ i, W.frozen? ⟨w.heap.size, i, none⟩ = false := fun W h => ((h.of HM).sort [1, 0] rfl).free
  go_region_held3 (fun W => St w0 W M) (first | assumption | exact St.drew (by assumption) | exact St.ext (St.drew s5) (belNew _ _)) (first | fail)
  all_goals (go_wp2_with fail)
  all_goals
    have sF := ((((((s5.of HM).sort [1, 0] rfl).ext (belNew w5 (.cells #[.int .i64 at0, .int .i64 0, .int .i64 k] 113))).setCell 0 (.int .i64 at0)).setCell 1 (.int .i64 0)).setCell 2 (.int .i64 k)).drew
    have kF := sF.cell
    exact bodyPost_ret (v := .tuple #[.agg #[.int .i64 at0, .int .i64 0, .int .i64 k], .bool true]) (by simp [results, Try.results60, go_sem, kF]) rfl ⟨rfl, ((((hb0.alloc hb0.size _).setCell (by simp) _).setCell (by simp) _).setCell (by simp) _).drew⟩
end Ytfhfkfnffajciaa
end Go.Proofs
