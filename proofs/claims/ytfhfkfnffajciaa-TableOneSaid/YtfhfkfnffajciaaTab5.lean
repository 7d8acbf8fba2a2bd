/- Tables: Waiters, IsCurrent, left, Leave, Release. -/
import Derived.Test.YtfhfkfnffajciaaTab4
import Derived.IntWalk
namespace Go.Proofs
open Go.RowKit Go.Proofs.Ytfhfkfnffajciaa

namespace Ytfhfkfnffajciaa
variable {w0 w : World} {L : List Asn} {p q : Nat} {t : Tab} {r : Rec} {n : Int}

set_option maxRecDepth 100000 in
theorem tabWaiters_ok (n : Int) (hok : ∀ x, aget t.runs n = some x → RecOk n x.2) (s : St w0 w (tabA p t :: L)) : Calls Try.prog 19 #[ptr p, int n] w fun e w' =>
    ∃ v, e = .returned v ∧ Below w.heap.size w w' ∧ St w0 w' (rowA 3 1 v (t.waiters n).length ((t.waiters n).map int) :: tabA p t :: L) := by
  have hg := get_ok n s
  cases h : aget t.runs n with
  | none =>
    simp only [h, ptrOf] at hg
    have hv : t.waiters n = [] := by simp [Tab.waiters, h]
    rw [hv]
    clear hv hok
    go_enter Try.func19, Try.ntmps19
    go_wp2_with (first | (go_at_call 41; refine hg.mono ?_; rintro e w' ⟨rfl, rfl⟩) | (go_at_call 53; refine (nilRec_Waiters _).mono ?_; rintro e w' ⟨rfl, rfl⟩))
    go_ret
    exact ⟨_, rfl, Below.refl _ _, s.rowNil⟩
  | some x =>
    obtain ⟨q, r⟩ := x
    simp only [h, ptrOf] at hg
    obtain ⟨k1, k2, k3⟩ : RecOk n r := hok _ h
    obtain ⟨rb, cb, gb, R, s1, hput, _⟩ := s.tabAt h
    have hv : t.waiters n = r.waiters := by simp [Tab.waiters, h]
    have hw := recWaiters_ok (by omega) s1
    rw [hv]
    clear hv hok k1 k2 k3
    go_enter Try.func19, Try.ntmps19
    go_wp2_with fail
    refine hg.mono ?_
    rintro e w' ⟨rfl, rfl⟩
    go_wp2_with fail
    refine hw.mono ?_
    rintro e w' ⟨v, rfl, hb, s2⟩
    go_wp2
    go_ret
    have s3 := hput id t.cur t.gens (rowA 3 1 v r.waiters.length (r.waiters.map int) :: L) (s2.sort [1, 2, 3, 4, 5, 6, 0] rfl)
    have e : amod t.runs n (fun x : Nat × Rec => (x.1, id x.2)) = t.runs := by
      simp only [amod, id, ite_self]
      exact List.map_id _
    rw [e] at s3
    exact ⟨v, rfl, hb, s3.swap⟩
@[go_sem] theorem fieldRunKey (a sp g : Int) (nm : ByteArray) (b : Bool) (w : World) : (Instr.field 58 (.agg #[.int .i64 a, .int .u16 sp, .string nm, .int .i64 g, .bool b]) 1).run Try.prog w = .ok (.agg #[.int .u16 sp, .string nm]) w := by kernel_rfl
theorem recRun_in (h : aget t.runs n = some (q, r)) (s : St w0 w (tabA p t :: L)) : Calls Try.prog 49 #[ptr q] w fun e w' => e = .returned (.agg #[int r.run.run, .int .u16 r.run.key.space, .string r.run.key.name, int r.run.gen, .bool r.run.refresh]) ∧ Below w.heap.size w w' := by
  obtain ⟨rb, cb, gb, R, s1, _, _⟩ := s.tabAt h
  exact recRun_ok s1
set_option maxRecDepth 100000 in
set_option maxHeartbeats 1000000 in
theorem tabIsCur_ok (n : Int) (s : St w0 w (tabA p t :: L)) : Calls Try.prog 21 #[ptr p, int n] w fun e w' => e = .returned (.bool (t.isCur n)) ∧ Below w.heap.size w w' := by
  have hg := get_ok n s
  cases h : aget t.runs n with
  | none =>
    simp only [h, ptrOf] at hg
    have hv : t.isCur n = false := by simp [Tab.isCur, h]
    rw [hv]
    clear hv
    go_enter Try.func21, Try.ntmps21
    go_wp2_with (first | (go_at_call 41; refine hg.mono ?_; rintro e w' ⟨rfl, rfl⟩))
    go_quiet (fail)
    go_wp2
    go_ret
    exact ⟨rfl, belDrewN (Below.refl _ _) _⟩
  | some x =>
    obtain ⟨q, r⟩ := x
    simp only [h, ptrOf] at hg
    have hv : t.isCur n = decide ((aget t.cur r.run.key).getD 0 = n) := by simp [Tab.isCur, h]
    rw [hv]
    clear hv
    obtain ⟨M, HM⟩ := named (tabA p t :: L)
    have s' : St w0 w M := s.to HM
    have hrun := fun W (hS : St w0 W M) => recRun_in h (hS.of HM)
    have kp : ∃ rb cb gb, ∀ W, Below w.heap.size w W → St w0 W (tabParts p rb cb gb t ++ L) := by
      obtain ⟨rb, cb, gb, s⟩ := s.tabOpen
      exact ⟨rb, cb, gb, fun W hb => s.ext hb⟩
    obtain ⟨rb, cb, gb, kp⟩ := kp
    have hc := fun W (hb : Below w.heap.size w W) => (kp W hb).cell
    have hl := fun W (hb : Below w.heap.size w W) => ((kp W hb).sort [2, 0, 1] rfl).lookup keyTy Try.underlying28 zeroInt r.run.key
    simp only [Key.enc, orZ_int] at hl
    clear h kp
    generalize (aget t.cur r.run.key).getD 0 = c at hl
    go_enter Try.func21, Try.ntmps21
    go_wp2_with (first | (go_at_call 41; refine hg.mono ?_; rintro e w' ⟨rfl, rfl⟩))
    have hb0 : Below w.heap.size w w := Below.refl _ _
    go_region_held3 (fun W => Below w.heap.size w W) (first | assumption | exact Below.drew (by assumption)) (first | (go_at_call 49; refine (hrun _ (s.ext (by assumption) |>.to HM)).mono ?_; rintro e w3 ⟨rfl, hb3⟩; have hb4 := (by assumption : Below w.heap.size w _).trans (hb3.mono (Below.size (by assumption)))))
    go_wp2
    go_ret
    have e1 : (c == n) = decide (c = n) := by rw [Bool.eq_iff_iff]; simp
    exact ⟨by simp [e1], by assumption⟩
def Tab.left (t : Tab) (n : Int) (c : Bool) : Tab :=
  if c && t.isCur n then { t with gens := aput t.gens (t.run n).key ((aget t.gens (t.run n).key).getD 0 + 1), cur := adel t.cur (t.run n).key } else t
theorem Key.enc_eq (k : Key) : Value.agg #[.int .u16 k.space, .string k.name] = k.enc := rfl
def runCells (x : Run) : List Value := [int x.run, .int .u16 x.key.space, .string x.key.name, int x.gen, .bool x.refresh]
set_option maxRecDepth 100000 in
set_option maxHeartbeats 2000000 in
theorem tabLeft_no (n : Int) (c : Bool) (h : aget t.runs n = some (q, r)) (hrn : r.run.run = n) (hcc : (c && t.isCur n) = false) (s : St w0 w (tabA p t :: L)) :
    Calls Try.prog 45 #[ptr p, ptr q, .bool c] w fun e w' => e = .returned (.agg #[.bool c, .bool false]) ∧ St w0 w' (tabA p t :: L) := by
  subst hrn
  have s2 := (s.allocCells [.bool false, .bool false] 43).allocCells [.bool c, .bool false] 43
  have hrun := recRun_in h (s2.sort [2, 0, 1] rfl)
  simp only [World.size_alloc] at s2
  cases c
  · go_enter Try.func45, Try.ntmps45
    go_wp2_with fail
    refine hrun.mono ?_
    rintro e w1 ⟨rfl, hb⟩
    have s3 := s2.ext hb
    have hc7 := s3.cell
    have hl7 := s3.lt
    have hf6 := (s3.sort [1, 0] rfl).free
    have hc6 := (s3.sort [1, 0] rfl).cell
    have hl6 := (s3.sort [1, 0] rfl).lt
    clear hrun
    go_wp2
    have s5 := ((s3.sort [1, 0] rfl).setCell 0 (.bool false)).setCell 1 (.bool false)
    have s6 := s5.allocCells [int r.run.run, .int .u16 r.run.key.space, .string r.run.key.name, int r.run.gen, .bool r.run.refresh] 58
    exact bodyPost_ret (v := .agg #[.bool false, .bool false]) (by simp [results, Try.results45, go_sem, hc6, hl6]) rfl ⟨rfl, s6.drop.drop.drop⟩
  · have hic : t.isCur r.run.run = false := by simpa using hcc
    have hcur := fun W (hS : St w0 W (tabA p t :: L)) => tabIsCur_ok r.run.run hS
    rw [hic] at hcur
    clear hcc hic
    go_enter Try.func45, Try.ntmps45
    go_wp2_with fail
    refine hrun.mono ?_
    rintro e w1 ⟨rfl, hb⟩
    have s4 := (s2.ext hb).allocCells [int r.run.run, .int .u16 r.run.key.space, .string r.run.key.name, int r.run.gen, .bool r.run.refresh] 58
    clear hrun s2 s hb
    go_wp2_with fail
    refine (hcur _ s4.drop.drop.drop).mono ?_
    rintro e w2 ⟨rfl, hb⟩
    have s5 := s4.ext hb
    have hc7 := (s5.sort [1, 0] rfl).cell
    have hf6 := (s5.sort [2, 0, 1] rfl).free
    have hc6 := (s5.sort [2, 0, 1] rfl).cell
    clear hcur s4 hb
    go_wp2
    have s6 := ((s5.sort [2, 0, 1] rfl).setCell 0 (.bool true)).setCell 1 (.bool false)
    exact bodyPost_ret (v := .agg #[.bool true, .bool false]) (by simp [results, Try.results45, go_sem, hc6]) rfl ⟨rfl, s6.drop.drop.drop⟩
set_option maxRecDepth 100000 in
set_option maxHeartbeats 4000000 in
theorem tabLeft_yes (n : Int) (h : aget t.runs n = some (q, r)) (hrn : r.run.run = n) (hcc : t.isCur n = true) (hg1 : 0 ≤ (aget t.gens r.run.key).getD 0) (hg2 : (aget t.gens r.run.key).getD 0 < 4611686018427387904) (s : St w0 w (tabA p t :: L)) :
    Calls Try.prog 45 #[ptr p, ptr q, .bool true] w fun e w' => e = .returned (.agg #[.bool true, .bool true]) ∧
      St w0 w' (tabA p { t with gens := aput t.gens r.run.key ((aget t.gens r.run.key).getD 0 + 1), cur := adel t.cur r.run.key } :: L) := by
  subst hrn
  have s2 := (s.allocCells [.bool false, .bool false] 43).allocCells [.bool true, .bool false] 43
  have hrun := recRun_in h (s2.sort [2, 0, 1] rfl)
  simp only [World.size_alloc] at s2
  have hcur := fun W (hS : St w0 W (tabA p t :: L)) => tabIsCur_ok r.run.run hS
  rw [hcc] at hcur
  clear hcc
  go_enter Try.func45, Try.ntmps45
  go_wp2_with fail
  refine hrun.mono ?_
  rintro e w1 ⟨rfl, hb⟩
  have s4 := (s2.ext hb).allocCells [int r.run.run, .int .u16 r.run.key.space, .string r.run.key.name, int r.run.gen, .bool r.run.refresh] 58
  clear hrun s2 s hb h
  go_wp2_with fail
  refine (hcur _ s4.drop.drop.drop).mono ?_
  rintro e w2 ⟨rfl, hb⟩
  have s5 := s4.ext hb
  have hc7 := (s5.sort [1, 0] rfl).cell
  have hf7 := (s5.sort [1, 0] rfl).free
  clear hcur s4 hb
  go_wp2
  have s6 := ((s5.sort [1, 0] rfl).setCell 1 (.bool true)).sort [3, 1, 0, 2] rfl
  obtain ⟨w3, hw3⟩ : ∃ w3, w2.setCell ⟨w.heap.size + 1, 1, none⟩ (.bool true) = w3 := ⟨_, rfl⟩
  rw [hw3] at s6 ⊢
  clear hw3 s5 hc7 hf7
  obtain ⟨rb, cb, gb, s7⟩ := s6.tabOpen
  clear s6
  obtain ⟨S0, HS⟩ := named [cells p [int t.flight, int t.begun, .map (some rb), .map (some cb), .map (some gb)] 85, cells w1.heap.size [int r.run.run, .int .u16 r.run.key.space, .string r.run.key.name, int r.run.gen, .bool r.run.refresh] 58]
  have kp : ∀ W, St w0 W S0 → ∀ i, W.cell? ⟨p, i, none⟩ = [int t.flight, int t.begun, .map (some rb), .map (some cb), .map (some gb)][i]? := fun W h => (h.of HS).cell
  have k8 : ∀ W, St w0 W S0 → ∀ i, W.cell? ⟨w1.heap.size, i, none⟩ = [int r.run.run, .int .u16 r.run.key.space, .string r.run.key.name, int r.run.gen, .bool r.run.refresh][i]? := fun W h => ((h.of HS).sort [1, 0] rfl).cell
  have s8 : St w0 w3 S0 := St.to HS (St.front 2 (s7.sort [0, 5, 1, 2, 3, 4] rfl))
  have s9 := s7.sort [3, 0, 5, 1, 2, 4] rfl
  clear s7
  have hw : IntKind.i64.wrap ((aget t.gens r.run.key).getD 0 + 1) = (aget t.gens r.run.key).getD 0 + 1 := IntWalk.i64_in _ (by omega)
  have H1 := Lib.hid hg1
  have H2 := Lib.hid hg2
  clear hg1 hg2
  generalize hgg : (aget t.gens r.run.key).getD 0 = g at hw H1 H2 ⊢
  have HG := Lib.hid hgg
  clear hgg
  go_region_held3 (fun W => St w0 W S0) (first | assumption | exact St.drew (by assumption))
    (first
      | ((with_reducible refine upon_lookup keyTy Try.underlying28 zeroInt s9.drew r.run.key (Key.enc_eq _) ?_); rw [orZ_int, HG.out])
      | ((with_reducible refine upon_pendLookup keyTy Try.underlying28 r.run.key n1 s10 (Key.enc_eq _) ?_); rw [orZ_int, HG.out])
      | (refine upon_mapEntry keyTy Try.underlying28 zeroInt s9.drew r.run.key rfl ?_; intro v1 n1 w7 s10; have s11 : St w0 w7 S0 := St.to HS (St.front 2 (s10.sort [1, 2, 0] rfl)); clear s9)
      | (refine upon_entryStore r.run.key n1 s10 (g + 1) rfl ?_; intro w8 s12; have s13 : St w0 w8 S0 := St.to HS (St.front 2 (s12.sort [1, 2, 0] rfl)); clear s10))
  all_goals
    clear hw
    rw [← HG.out] at s12
    have s14 := s12.sort [4, 0, 1, 2, 3] rfl
    clear s12
    go_wp2_with fail
    go_region_held3 (fun W => St w0 W S0) (first | assumption | exact St.drew (by assumption))
      (first
        | ((with_reducible refine upon_mapDel keyTy Try.underlying28 s14.drew r.run.key _ _ (Key.enc_eq _) ?_); intro w9 s15; have s16 : St w0 w9 S0 := St.to HS (St.front 2 (s15.sort [2, 3, 0, 1] rfl)); clear s14))
    have s17 := s15.sort [7, 6, 0, 1, 2, 3, 4, 5] rfl
    have hf6 := s17.free
    have hc6 := s17.cell
    have hc7 := (s17.sort [1, 0] rfl).cell
    clear s15 s13 s11 s8 kp k8
    go_wp2
    have s18 := ((s17.setCell 0 (.bool true)).setCell 1 (.bool true)).drop.drop
    have s19 := (s18.sort [3, 2, 4, 0, 1, 5] rfl).drop
    exact bodyPost_ret (v := .agg #[.bool true, .bool true]) (by simp [results, Try.results45, go_sem, hc6]) rfl ⟨rfl, St.tabShut s19⟩
end Ytfhfkfnffajciaa
end Go.Proofs
