/- Queues by time. -/
import Derived.Test.YtfhfkfnffajciaaKey
import Derived.Test.YtfhfkfnffajciaaRow2
import Derived.Test.YtfhfkfnffajciaaMap2
import Derived.Deep.RegionLaw
namespace Go.Proofs
open Go.RowKit Go.Proofs.Ytfhfkfnffajciaa
namespace Ytfhfkfnffajciaa
variable {w0 w : World} {L : List Asn} {p n : Nat} {v m tn : Value} {xs : List Value}
theorem zeroIntQ (w : World) : (zeroValue 3).run Try.prog w = .ok (.int .i64 0) w := by kernel_rfl
theorem zeroTimed (w : World) : (zeroValue 113).run Try.prog w = .ok (.agg #[.int .i64 0, .int .i64 0, .int .i64 0]) w := by kernel_rfl
theorem cells3_new (w : World) (a b c : Value) (t : TypeId) : ∀ j u, [a, b, c][j]? = some u → (w.alloc (.cells #[a, b, c] t)).cell? ((⟨w.heap.size, 0, none⟩ : Addr).add j) = some u := by
  intro j u hj
  match j, hj with
  | 0, hj => simp at hj; subst hj; simp [Addr.add]
  | 1, hj => simp at hj; subst hj; simp [Addr.add]
  | 2, hj => simp at hj; subst hj; simp [Addr.add]
theorem assertTimed (x : Value) (w : World) : (Instr.typeAssert (.iface 113 x) 20 113 false).run Try.prog w = .ok x w := by kernel_rfl
theorem infoTimed : (Try.prog.info? 113).map (fun i => (i.zero, i.size, i.bytes)) = some (some (.agg #[.int .i64 0, .int .i64 0, .int .i64 0]), 3, 24) := by kernel_rfl
theorem one3 (a b c : Int) : ∀ u ∈ [Value.int .i64 a, .int .i64 b, .int .i64 c], u.oneCell' = true := by
  intro u hu; simp at hu; rcases hu with rfl | rfl | rfl <;> rfl
set_option maxRecDepth 100000 in
set_option maxHeartbeats 1000000 in
theorem rowPush_ok (a b c : Int) (hn : (n + 1) * 24 ≤ 140737488355328) (s : St w0 w (cells p [v, m, tn] 122 :: rowA 113 3 v n xs :: L)) :
    Calls Try.prog 154 #[.pointer (some ⟨p, 0, none⟩), .iface 113 (.agg #[.int .i64 a, .int .i64 b, .int .i64 c])] w fun e w' => (∃ r, e = .returned r) ∧
      ∃ ad c', St w0 w' (cells p [.slice ad (n + 1) c', m, tn] 122 :: rowA 113 3 (.slice ad (n + 1) c') (n + 1) (xs ++ [.int .i64 a, .int .i64 b, .int .i64 c]) :: L) := by
  obtain ⟨S0, HS⟩ := named [cells p [v, m, tn] 122]
  have kp : ∀ W, St w0 W S0 → ∀ i, W.cell? ⟨p, i, none⟩ = [v, m, tn][i]? := fun W h => (h.of HS).cell
  have kf : ∀ W, St w0 W S0 → ∀ i, W.frozen? ⟨p, i, none⟩ = false := fun W h => (h.of HS).free
  have s6 : St w0 w S0 := St.to HS (St.front 1 s)
  have s7 := s.sort [1, 0] rfl
  have hta := assertTimed
  obtain ⟨i, hi, hz, hs3, hb24⟩ := info_parts infoTimed
  go_enter Try.func154, Try.ntmps154
  go_wp2_with fail
  have s6' := s6.drew
  go_region_law (first
      | (refine step_push (size := 3) (m := 1) rfl _ _ rfl i _ 24 Try.underlying119 hi hz hs3 hb24 rfl (by decide) (s7.drew.ext (belNew _ _)) rfl _ 1 [.int .i64 a, .int .i64 b, .int .i64 c] rfl rfl (cells3_new _ _ _ _ _) (one3 a b c) hn (by decide) ?_; intro ad' c' w8 s8; have s9 : St w0 w8 S0 := St.to HS (St.front 1 (s8.sort [1, 0] rfl))))
  all_goals (go_end0; exact ⟨⟨_, rfl⟩, _, _, (s8.sort [1, 0] rfl).setCell 0 _⟩)
theorem rowLen_ok (ad : Option Addr) (n c : Nat) (w : World) : Calls Try.prog 151 #[.slice ad n c] w fun e w' => e = .returned (.int .i64 n) ∧ w = w' := by
  go_enter Try.func151, Try.ntmps151
  go_wp2
  go_ret
  exact ⟨rfl, rfl⟩
theorem up0_ok (x : Value) (w : World) : Calls Try.prog 83 #[x, .int .i64 0] w fun e w' => (∃ r, e = .returned r) ∧ w = w' := by
  go_enter Try.func83, Try.ntmps83
  go_wp2
  refine wp_loop_rounds 1 ?_
  rw [rounds_succ]
  go_wp2
  go_end0
  exact ⟨⟨_, rfl⟩, rfl⟩
theorem methPush (p : Nat) (w : World) : (method 312 117 (.pointer (some ⟨p, 0, none⟩)) "Push").run Try.prog w = .ok (154, .pointer (some ⟨p, 0, none⟩)) w := by kernel_rfl
theorem methLen_at {p : Nat} {w : World} {ad : Option Addr} {n c : Nat} (h : w.cell? ⟨p, 0, none⟩ = some (.slice ad n c)) : (method 312 117 (.pointer (some ⟨p, 0, none⟩)) "Len").run Try.prog w = .ok (151, .slice ad n c) w := by
  have hl : (loadVar 119 ⟨p, 0, none⟩).run Try.prog w = .ok (.slice ad n c) w := by go_simp
  have e : (method 312 117 (.pointer (some ⟨p, 0, none⟩)) "Len").run Try.prog w = (do let v ← (do let ptr ← Builtin.ssaWrapNilChk_ #[117] 117 #[.pointer (some ⟨p, 0, none⟩), strVal "", strVal "Len"]; loadVar 119 (← asAddr ptr)); pure ((151 : FuncId), v) : Sem (FuncId × Value)).run Try.prog w := by kernel_rfl
  rw [e]
  simp only [Sem.run_bind]
  have e2 : (Builtin.ssaWrapNilChk_ #[117] 117 #[.pointer (some ⟨p, 0, none⟩), strVal "", strVal "Len"]).run Try.prog w = .ok (.pointer (some ⟨p, 0, none⟩)) w := by kernel_rfl
  rw [e2]
  simp only [Result.andThen_ok]
  have e3 : (asAddr (.pointer (some ⟨p, 0, none⟩))).run Try.prog w = .ok ⟨p, 0, none⟩ w := by kernel_rfl
  rw [e3]
  simp only [Result.andThen_ok, hl, Sem.run_pure]
set_option maxRecDepth 100000 in
set_option maxHeartbeats 1000000 in
theorem heapPush_new (a b c : Int) (s : St w0 w (cells p [.slice none 0 0, m, tn] 122 :: L)) :
    Calls Try.prog 64 #[.iface 117 (.pointer (some ⟨p, 0, none⟩)), .iface 113 (.agg #[.int .i64 a, .int .i64 b, .int .i64 c])] w fun e w' => (∃ r, e = .returned r) ∧
      ∃ ad c', St w0 w' (cells p [.slice ad 1 c', m, tn] 122 :: rowA 113 3 (.slice ad 1 c') 1 [.int .i64 a, .int .i64 b, .int .i64 c] :: L) := by
  have hpush := rowPush_ok a b c (by omega) (s.rowNil (e := 113) (size := 3)).swap
  have hmp := methPush p
  go_enter Try.func64, Try.ntmps64
  go_wp2_with (first
    | (go_at_call 154; refine hpush.mono ?_; rintro e w1 ⟨⟨r, rfl⟩, ad, c', s1⟩; have hml := methLen_at (s1.cell 0))
    | (go_at_call 151; refine (rowLen_ok ad 1 c' _).mono ?_; rintro e w2 ⟨rfl, rfl⟩)
    | (go_at_call 83; refine (up0_ok _ _).mono ?_; rintro e w3 ⟨⟨r3, rfl⟩, rfl⟩))
  go_end0
  exact ⟨⟨_, rfl⟩, _, _, by simpa using s1⟩
def tenc (x : Int × Int × Int) : Value := .agg #[.int .i64 x.1, .int .i64 x.2.1, .int .i64 x.2.2]
def timesNew (p : Nat) : Asn := exA fun (mb : Nat) => star (cells p [.slice none 0 0, .map (some mb), .int .i64 0] 122) (mapA (Value.int .i64) tenc mb ([] : List (Int × Int × Int × Int)))
def timesOne (p : Nat) (at0 k : Int) : Asn := exA fun (x : Nat × Option Addr × Nat) => Star [cells p [.slice x.2.1 1 x.2.2, .map (some x.1), .int .i64 1] 122, mapA (Value.int .i64) tenc x.1 [(k, (at0, 0, k))],
  rowA 113 3 (.slice x.2.1 1 x.2.2) 1 [.int .i64 at0, .int .i64 0, .int .i64 k]]
theorem newTimes_ok (s : St w0 w L) : Calls Try.prog 63 #[] w fun e w' => ∃ p, e = .returned (.pointer (some ⟨p, 0, none⟩)) ∧ St w0 w' (timesNew p :: L) := by
  have hmm := @run_makeMap Try.prog
  go_enter Try.func63, Try.ntmps63
  go_wp2
  go_ret
  refine ⟨_, rfl, ?_⟩
  have s4 := ((s.mapNew (K := Int) (V := Int × Int × Int) (enc := Value.int .i64) (venc := tenc)).allocCells [.slice none 0 0, .map (some w.heap.size), .int .i64 0] 122)
  simp only [World.size_alloc] at s4
  exact St.ex.2 ⟨_, St.flat.2 s4⟩
set_option maxRecDepth 100000 in
set_option maxHeartbeats 1000000 in
theorem timesPut_new (at0 k : Int) (h1 : 0 ≤ at0) (h2 : at0 ≤ 4611686018427387904) (s : St w0 w (timesNew p :: L)) :
    Calls Try.prog 31 #[.pointer (some ⟨p, 0, none⟩), .int .i64 at0, .int .i64 k] w fun e w' => e = .returned (.int .i64 0) ∧ St w0 w' (timesOne p at0 k :: L) := by
  obtain ⟨mb, s⟩ := St.ex.1 s
  have s1 := St.flat.1 s
  have g1 : decide (at0 < 0) = false := by simp; omega
  have g2 : decide (4611686018427387904 < at0) = false := by simp; omega
  have hc := s1.cell
  have hf := s1.free
  have hlt := s1.lt
  have hl := s1.swap.lookupAt intTy Try.underlying120 zeroTimed k
  have hn := s1.swap.lenAt Try.underlying120
  have hmb := s1.swap.mapLt
  simp only [aget_nil, orZ, Option.isSome_none] at hl
  clear h1 h2
  go_enter Try.func31, Try.ntmps31
  go_wp2
  have sA := (((s1.setCell 2 (.int .i64 1)).allocCells [.int .i64 0, .int .i64 0, .int .i64 0] 113).allocCells [.int .i64 at0, .int .i64 0, .int .i64 k] 113).sort [2, 0, 1, 3] rfl
  simp only [World.size_alloc, World.size_setCell] at sA
  have sB := sA
  obtain ⟨w5, hw5⟩ : ∃ w5, (((w.setCell ⟨p, 2, none⟩ (.int .i64 1)).alloc (.cells #[.int .i64 0, .int .i64 0, .int .i64 0] 113)).alloc (.cells #[.int .i64 at0, .int .i64 0, .int .i64 k] 113)) = w5 := ⟨_, rfl⟩
  rw [hw5] at sB ⊢
  clear hw5 sA hl hn hc hf hlt hmb s s1
  obtain ⟨S0, HS⟩ := named [cells p [.slice none 0 0, .map (some mb), .int .i64 1] 122, cells (w.heap.size + 1) [.int .i64 at0, .int .i64 0, .int .i64 k] 113]
  have kp : ∀ W, St w0 W S0 → ∀ i, W.cell? ⟨p, i, none⟩ = [.slice none 0 0, .map (some mb), .int .i64 1][i]? := fun W h => (h.of HS).cell
  have kb : ∀ W, St w0 W S0 → ∀ i, W.cell? ⟨w.heap.size + 1, i, none⟩ = [.int .i64 at0, .int .i64 0, .int .i64 k][i]? := fun W h => ((h.of HS).sort [1, 0] rfl).cell
  have s6 : St w0 w5 S0 := St.to HS (St.front 2 sB)
  have s7 := sB.sort [3, 0, 1, 2] rfl
  clear sB
  go_region_held3 (fun W => St w0 W S0) (first | assumption | exact St.drew (by assumption))
    (first
      | (refine upon_mapPut intTy Try.underlying120 s7.drew k rfl (at0, 0, k) rfl ?_; intro w8 s8; have s9 : St w0 w8 S0 := St.to HS (St.front 2 (s8.sort [1, 2, 0] rfl))))
  clear kp s6 s7
  have s10 := s8.sort [1, 2, 3, 0] rfl
  obtain ⟨S1, HS1⟩ := named [cells (w.heap.size + 1) [.int .i64 at0, .int .i64 0, .int .i64 k] 113]
  have kb1 : ∀ W, St w0 W S1 → ∀ i, W.cell? ⟨w.heap.size + 1, i, none⟩ = [.int .i64 at0, .int .i64 0, .int .i64 k][i]? := fun W h => (h.of HS1).cell
  have s11 : St w0 w8 S1 := St.to HS1 (St.front 1 (s10.sort [1, 0] rfl))
  clear kb s8 s9
  go_wp2_with fail
  go_region_held3 (fun W => St w0 W S1) (first | assumption | exact St.drew (by assumption))
    (first
      | (go_at_call 64; refine (heapPush_new at0 0 k s10.drew).mono ?_; rintro e w12 ⟨⟨r, rfl⟩, ad, c', s12⟩; have s13 : St w0 w12 S1 := St.to HS1 (St.front 1 (s12.sort [2, 0, 1] rfl))))
  go_wp2
  go_ret
  refine ⟨rfl, St.ex.2 ⟨(mb, ad, c'), St.many.2 ?_⟩⟩
  exact (s12.sort [2, 3, 0, 4, 1] rfl).drop.drop
end Ytfhfkfnffajciaa
end Go.Proofs
