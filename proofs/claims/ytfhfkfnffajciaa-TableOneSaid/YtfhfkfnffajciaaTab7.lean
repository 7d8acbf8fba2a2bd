/- Tables: Forget. -/
import Derived.Test.YtfhfkfnffajciaaTab6
namespace Go.Proofs
open Go.RowKit Go.Proofs.Ytfhfkfnffajciaa

namespace Ytfhfkfnffajciaa
variable {w0 w : World} {L : List Asn} {p q : Nat} {t : Tab} {r : Rec} {n : Int}

def Tab.gen (t : Tab) (k : Key) : Int := (aget t.gens k).getD 0
def Tab.forget (t : Tab) (k : Key) : Tab := { t with cur := adel t.cur k, gens := aput t.gens k (t.gen k + 1) }
set_option maxRecDepth 100000 in
theorem tabForget_bad (k : Key) (hk : 64 < k.name.size) (hk2 : (k.name.size : Int) ≤ 9223372036854775807) (_ : St w0 w (tabA p t :: L)) :
    Calls Try.prog 14 #[ptr p, .agg #[.int .u16 k.space, .string k.name]] w fun e w' => e = .returned (.tuple #[int 0, int 0, int 20]) ∧ Below w.heap.size w w' := by
  have hch := fun W => Check_key k W hk2
  have hb0 := belNew w (.cells #[.int .u16 k.space, .string k.name] 31)
  rw [if_neg (by omega)] at hch
  clear hk hk2
  go_enter Try.func14, Try.ntmps14
  go_wp2_with (first | (go_at_call 47; refine (hch _).mono ?_; rintro e w' ⟨rfl, hb⟩))
  go_ret3
  exact ⟨rfl, hb0.trans (hb.mono (by simp))⟩
set_option maxRecDepth 100000 in
set_option maxHeartbeats 4000000 in
theorem tabForget_ok (k : Key) (hk : k.name.size ≤ 64) (hg : GenOk t) (s : St w0 w (tabA p t :: L)) :
    Calls Try.prog 14 #[ptr p, .agg #[.int .u16 k.space, .string k.name]] w fun e w' => e = .returned (.tuple #[int (t.gen k + 1), int ((aget t.cur k).getD 0), int 0]) ∧ St w0 w' (tabA p (t.forget k) :: L) := by
  have hch := fun W => Check_key k W (by omega)
  rw [if_pos hk] at hch
  obtain ⟨hg1, hg2⟩ := hg k
  have hgg : t.gen k = (aget t.gens k).getD 0 := rfl
  rw [← hgg] at hg1 hg2
  unfold Tab.forget
  obtain ⟨rb, cb, gb, s⟩ := s.tabOpen
  obtain ⟨M, HM⟩ := named (cells w.heap.size [.int .u16 k.space, .string k.name] 31 :: (tabParts p rb cb gb t ++ L))
  have kb : ∀ W, St w0 W M → ∀ i, W.cell? ⟨w.heap.size, i, none⟩ = [.int .u16 k.space, .string k.name][i]? := fun W h => (h.of HM).cell
  have kp : ∀ W, St w0 W M → ∀ i, W.cell? ⟨p, i, none⟩ = [int t.flight, int t.begun, .map (some rb), .map (some cb), .map (some gb)][i]? := fun W h => ((h.of HM).sort [1, 0] rfl).cell
  have kc := fun W (h : St w0 W M) => ((h.of HM).sort [3, 0, 1, 2] rfl).lookup keyTy Try.underlying28 zeroInt k
  simp only [Key.enc, orZ_int] at kc
  generalize (aget t.cur k).getD 0 = was at kc ⊢
  have hw : IntKind.i64.wrap (t.gen k + 1) = t.gen k + 1 := IntWalk.i64_in _ (by omega)
  have H1 := Lib.hid hg1
  have H2 := Lib.hid hg2
  have HG := Lib.hid hgg
  clear hg1 hg2 hgg hg hk
  generalize t.gen k = g at hw H1 H2 HG ⊢
  go_enter Try.func14, Try.ntmps14
  go_wp2_with fail
  refine (hch _).mono ?_
  rintro e w1 ⟨rfl, hb1⟩
  have s1 := ((s.allocCells [.int .u16 k.space, .string k.name] 31).ext hb1).to HM
  clear hb1 s hch
  go_wp2_with fail
  clear hw
  go_quiet (fail)
  go_wp2_with fail
  clear kc kb kp
  obtain ⟨S0, HS⟩ := named [cells p [int t.flight, int t.begun, .map (some rb), .map (some cb), .map (some gb)] 85, cells w.heap.size [.int .u16 k.space, .string k.name] 31]
  have kp : ∀ W, St w0 W S0 → ∀ i, W.cell? ⟨p, i, none⟩ = [int t.flight, int t.begun, .map (some rb), .map (some cb), .map (some gb)][i]? := fun W h => (h.of HS).cell
  have kb : ∀ W, St w0 W S0 → ∀ i, W.cell? ⟨w.heap.size, i, none⟩ = [.int .u16 k.space, .string k.name][i]? := fun W h => ((h.of HS).sort [1, 0] rfl).cell
  have s2 := s1.of HM
  clear s1
  have s3 : St w0 w1 S0 := St.to HS (St.front 2 (s2.sort [1, 0] rfl))
  have s4 := s2.sort [3, 0, 1, 2, 4] rfl
  clear s2
  go_region_held3 (fun W => St w0 W S0) (first | assumption | exact St.drew (by assumption) | exact St.drew (St.drewN (by assumption) _))
    (first
      | ((with_reducible refine upon_mapDel keyTy Try.underlying28 (s4.drewN _).drew k _ _ (Key.enc_eq _) ?_); intro w3 s5; have s6 : St w0 w3 S0 := St.to HS (St.front 2 (s5.sort [2, 1, 0] rfl)); clear s4))
  clear s3
  have s7 := s5.sort [4, 0, 1, 2, 3] rfl
  clear s5
  go_wp2_with fail
  have hw : IntKind.i64.wrap (g + 1) = g + 1 := IntWalk.i64_in _ (by have := H1.out; have := H2.out; omega)
  go_region_held3 (fun W => St w0 W S0) (first | assumption | exact St.drew (by assumption))
    (first
      | ((with_reducible refine upon_lookup keyTy Try.underlying28 zeroInt s7.drew k (Key.enc_eq _) ?_); rw [orZ_int, ← HG.out])
      | ((with_reducible refine upon_pendLookup keyTy Try.underlying28 k n1 s10 (Key.enc_eq _) ?_); rw [orZ_int, ← HG.out])
      | (refine upon_mapEntry keyTy Try.underlying28 zeroInt s7.drew k rfl ?_; intro v1 n1 w7 s10; have s11 : St w0 w7 S0 := St.to HS (St.front 2 (s10.sort [3, 2, 0, 1] rfl)); clear s7)
      | (refine upon_entryStore k n1 s10 (g + 1) rfl ?_; intro w8 s12; have s13 : St w0 w8 S0 := St.to HS (St.front 2 (s12.sort [3, 2, 0, 1] rfl)); clear s10))
  all_goals
    clear kp kb s13 s11 s6 hw
    obtain ⟨N, HN⟩ := named (mapA Key.enc int gb (aput t.gens k (g + 1)) :: mapA Key.enc int cb (adel t.cur k) :: cells w.heap.size [.int .u16 k.space, .string k.name] 31 ::
      cells p [int t.flight, int t.begun, .map (some rb), .map (some cb), .map (some gb)] 85 :: mapA int rptr rb t.runs :: Star (t.runs.map fun x => recA x.2.1 x.2.2) :: L)
    have s14 : St w0 w8 N := St.to HN s12
    clear s12
    have kp : ∀ W, St w0 W N → ∀ i, W.cell? ⟨p, i, none⟩ = [int t.flight, int t.begun, .map (some rb), .map (some cb), .map (some gb)][i]? := fun W h => ((h.of HN).sort [3, 0, 1, 2] rfl).cell
    have kb : ∀ W, St w0 W N → ∀ i, W.cell? ⟨w.heap.size, i, none⟩ = [.int .u16 k.space, .string k.name][i]? := fun W h => ((h.of HN).sort [2, 0, 1] rfl).cell
    have kg := fun W (h : St w0 W N) => (h.of HN).lookup keyTy Try.underlying28 zeroInt k
    simp only [Key.enc, orZ_int, aget_aput, if_true, Option.getD_some] at kg
    go_wp2_with fail
    go_quiet (fail)
    go_wp2
    go_ret3
    refine ⟨rfl, ?_⟩
    have s15 := ((s14.of HN).sort [2, 3, 4, 1, 0, 5] rfl).drop
    exact St.tabShut (s15.drewN _)
end Ytfhfkfnffajciaa
end Go.Proofs
