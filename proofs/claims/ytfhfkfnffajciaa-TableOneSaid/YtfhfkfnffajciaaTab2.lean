/- Tables: Begin. -/
import Derived.Test.YtfhfkfnffajciaaTab1
import Derived.Test.YtfhfkfnffajciaaRec1
import Derived.Test.YtfhfkfnffajciaaMap2
namespace Go.Proofs
open Go.RowKit Go.Proofs.Ytfhfkfnffajciaa
namespace Ytfhfkfnffajciaa
variable {w0 w : World} {L : List Asn} {p : Nat} {t : Tab} {r : Rec}

set_option maxRecDepth 100000 in
set_option maxHeartbeats 1000000 in
theorem Begin_ok (k : Key) (c : Int) (hk : k.name.size ≤ 64) (hc : 1 ≤ c) (h1 : aget t.cur k = none) (h2 : (t.runs.length : Int) < t.flight) (h3 : 0 ≤ t.begun) (h4 : t.begun < 4611686018427387904) (h5 : 0 ≤ (aget t.gens k).getD 0) (h6 : t.begun + 1 ∉ akeys t.runs)
    (s : St w0 w (tabA p t :: L)) : Calls Try.prog 16 #[ptr p, .agg #[.int .u16 k.space, .string k.name], int c, .bool false] w fun e w' =>
      ∃ q, e = .returned (.tuple #[int (t.begun + 1), int 0]) ∧
        St w0 w' (tabA p { t with begun := t.begun + 1, runs := aput t.runs (t.begun + 1) (q, Rec.new ⟨t.begun + 1, k, (aget t.gens k).getD 0, false⟩ c), cur := aput t.cur k (t.begun + 1) } :: L) := by
  obtain ⟨rb, cb, gb, s⟩ := s.tabOpen
  have g1 : ¬ c < 1 := by omega
  have g3 : decide ((t.runs.length : Int) ≥ t.flight) = false := by simp; omega
  obtain ⟨M, HM⟩ := named (cells w.heap.size [.int .u16 k.space, .string k.name] 31 :: (tabParts p rb cb gb t ++ L))
  have kb : ∀ W, St w0 W M → ∀ i, W.cell? ⟨w.heap.size, i, none⟩ = [.int .u16 k.space, .string k.name][i]? := fun W h => (h.of HM).cell
  have kp : ∀ W, St w0 W M → ∀ i, W.cell? ⟨p, i, none⟩ = [int t.flight, int t.begun, .map (some rb), .map (some cb), .map (some gb)][i]? := fun W h => ((h.of HM).sort [1, 0] rfl).cell
  have kc := fun W (h : St w0 W M) => ((h.of HM).sort [3, 0, 1, 2] rfl).lookup keyTy Try.underlying28 zeroInt k
  have kg := fun W (h : St w0 W M) => ((h.of HM).sort [4, 0, 1, 2, 3] rfl).lookup keyTy Try.underlying28 zeroInt k
  have kn := fun W (h : St w0 W M) => ((h.of HM).sort [2, 0, 1] rfl).mapLen Try.underlying83
  simp only [Key.enc, orZ_int, h1, Option.getD_none, Option.isSome_none] at kc kg
  go_enter Try.func16, Try.ntmps16
  go_wp2_with fail
  refine (Check_key k _ (by omega)).mono ?_
  rintro e w1 ⟨rfl, hb1⟩
  have s1 := ((s.allocCells [.int .u16 k.space, .string k.name] 31).ext hb1).to HM
  clear hb1
  rw [if_pos hk]
  go_wp2_with fail
  go_quiet (fail)
  go_wp2_with fail
  go_quiet (fail)
  go_wp2_with fail
  go_region_held3 (fun W => St w0 W M) (first | assumption | exact St.drew (by assumption) | exact St.drew (St.drewN (by assumption) _)) (first | (go_at_call 50; refine (recNew_no _ _ c k (by omega) (by omega) hc (by assumption)).mono ?_; rintro e w3 ⟨q, rfl, s3⟩; have s4 := s3.drop))
  clear kb kp kc kg kn s4 s1
  obtain ⟨N, HN⟩ := named (cells p [int t.flight, int t.begun, .map (some rb), .map (some cb), .map (some gb)] 85 :: cells w.heap.size [.int .u16 k.space, .string k.name] 31 ::
    mapA int rptr rb t.runs :: mapA Key.enc int cb t.cur :: mapA Key.enc int gb t.gens :: Star (t.runs.map fun x => recA x.2.1 x.2.2) :: recA q (Rec.new ⟨t.begun + 1, k, (aget t.gens k).getD 0, false⟩ c) :: L)
  have s3 : St w0 w3 N := ((s3.of1 HM).sort [2, 1, 3, 4, 5, 6, 0] rfl).to HN
  have kp : ∀ W, St w0 W N → ∀ i, W.cell? ⟨p, i, none⟩ = [int t.flight, int t.begun, .map (some rb), .map (some cb), .map (some gb)][i]? := fun W h => (h.of HN).cell
  have kf : ∀ W, St w0 W N → ∀ i, W.frozen? ⟨p, i, none⟩ = false := fun W h => (h.of HN).free
  go_wp2_with fail
  clear kp kf
  have s5 := (s3.of HN).setCell 1 (int (t.begun + 1))
  obtain ⟨w5, hw5⟩ : ∃ w5, w3.setCell ⟨p, 1, none⟩ (.int .i64 (t.begun + 1)) = w5 := ⟨_, rfl⟩
  rw [hw5] at s5 ⊢
  clear hw5 s3
  obtain ⟨S0, HS⟩ := named [cells p [int t.flight, int (t.begun + 1), .map (some rb), .map (some cb), .map (some gb)] 85, cells w.heap.size [.int .u16 k.space, .string k.name] 31]
  have kp : ∀ W, St w0 W S0 → ∀ i, W.cell? ⟨p, i, none⟩ = [int t.flight, int (t.begun + 1), .map (some rb), .map (some cb), .map (some gb)][i]? := fun W h => (h.of HS).cell
  have kb : ∀ W, St w0 W S0 → ∀ i, W.cell? ⟨w.heap.size, i, none⟩ = [.int .u16 k.space, .string k.name][i]? := fun W h => ((h.of HS).sort [1, 0] rfl).cell
  have s6 : St w0 w5 S0 := St.to HS (St.front 2 s5)
  have s7 := s5.sort [2, 3, 0, 1, 4, 5, 6] rfl
  clear s5
  go_region_held3 (fun W => St w0 W S0) (first | assumption | exact St.drew (by assumption))
    (first
      | (refine upon_mapEntry intTy Try.underlying83 zeroRec s7.drew (t.begun + 1) rfl ?_; intro v1 n1 w7 s8; have s9 : St w0 w7 S0 := St.to HS (St.front 2 (s8.sort [2, 3, 0, 1] rfl)); clear s7)
      | (refine upon_entryStore (t.begun + 1) n1 s8 (q, Rec.new ⟨t.begun + 1, k, (aget t.gens k).getD 0, false⟩ c) rfl ?_; intro w8 s10; have s11 : St w0 w8 S0 := St.to HS (St.front 2 (s10.sort [2, 3, 0, 1] rfl)); clear s8)
      | (refine upon_mapEntry keyTy Try.underlying28 zeroInt (s10.sort [1, 0] rfl) k rfl ?_; intro v2 n2 w9 s12; have s13 : St w0 w9 S0 := St.to HS (St.front 2 (s12.sort [2, 3, 0, 1] rfl)); clear s10)
      | (refine upon_entryStore k n2 s12 (t.begun + 1) rfl ?_; intro w10 s14; have s15 : St w0 w10 S0 := St.to HS (St.front 2 (s14.sort [2, 3, 0, 1] rfl)); clear s12))
  go_wp2
  go_ret2
  refine ⟨q, rfl, St.tabShut (rb := rb) (cb := cb) (gb := gb) ?_⟩
  have s16 := ((((s14.sort [3, 0, 1, 2, 4] rfl).drop).sort [4, 5, 0, 1, 2, 3] rfl).snoc).sort [3, 2, 1, 4, 0] rfl
  simp only [tabParts]
  rw [aput_not_mem h6]
  simp only [List.map_append, List.map_cons, List.map_nil]
  rw [← aput_not_mem h6]
  exact s16
end Ytfhfkfnffajciaa
end Go.Proofs
