/- Tables: End. -/
import Derived.Test.YtfhfkfnffajciaaTab7
namespace Go.Proofs
open Go.RowKit Go.Proofs.Ytfhfkfnffajciaa

namespace Ytfhfkfnffajciaa
variable {w0 w : World} {L : List Asn} {p q : Nat} {t : Tab} {r : Rec} {n : Int}

def Tab.fin (t : Tab) (n : Int) : Tab := { t with runs := adel t.runs n, cur := if t.isCur n then adel t.cur (t.run n).key else t.cur }
set_option maxRecDepth 100000 in
theorem tabEnd_none (n : Int) (o : Outcome) (h : aget t.runs n = none) (s : St w0 w (tabA p t :: L)) :
    Calls Try.prog 15 #[ptr p, int n, outV o] w fun e w' => e = .returned (.tuple #[.slice none 0 0, .bool false, int 122]) ∧ Below w.heap.size w w' := by
  have hgt := fun W (hb : Below w.heap.size w W) => get_ok n (s.ext hb)
  have hb0 := belNew w (.cells #[int o.value, int o.fail.kind, int o.fail.code, int o.fail.run] 35)
  simp only [h, ptrOf] at hgt
  unfold outV
  go_enter Try.func15, Try.ntmps15
  go_wp2_with (first | (go_at_call 41; refine (hgt _ hb0).mono ?_; rintro e w' ⟨rfl, rfl⟩))
  go_ret3
  exact ⟨rfl, hb0⟩
set_option maxRecDepth 100000 in
theorem tabEnd_bad (n : Int) (o : Outcome) (h : aget t.runs n = some (q, r)) (hr : RecOk n r) (ho : o.right = false) (s : St w0 w (tabA p t :: L)) :
    Calls Try.prog 15 #[ptr p, int n, outV o] w fun e w' => e = .returned (.tuple #[.slice none 0 0, .bool false, int 30]) ∧ Below w.heap.size w w' := by
  have hgt := fun W (hb : Below w.heap.size w W) => get_ok n (s.ext hb)
  have hb0 := belNew w (.cells #[int o.value, int o.fail.kind, int o.fail.code, int o.fail.run] 35)
  obtain ⟨rb, cb, gb, R, s1, _, _⟩ := (s.ext hb0).tabAt h
  have hj := recEnd_bad o hr.1 ho s1
  simp only [h, ptrOf] at hgt
  unfold outV at hj ⊢
  go_enter Try.func15, Try.ntmps15
  go_wp2_with (first | (go_at_call 41; refine (hgt _ hb0).mono ?_; rintro e w' ⟨rfl, rfl⟩) | (go_at_call 48; refine hj.mono ?_; rintro e w' ⟨rfl, hb⟩))
  go_ret3
  exact ⟨rfl, hb0.trans (hb.mono (by simp))⟩
theorem adel_amod {K V : Type} [DecidableEq K] (m : List (K × V)) (k : K) (f : V → V) : adel (amod m k f) k = adel m k := by
  induction m with
  | nil => rfl
  | cons x m ih =>
    simp only [adel, amod, List.map_cons, List.filter_cons] at ih ⊢
    by_cases h : x.1 = k
    · simp only [h, ne_eq, not_true_eq_false, decide_false, Bool.false_eq_true, if_false]; exact ih
    · simp only [h, ne_eq, not_false_eq_true, decide_true, if_true, if_false]; rw [ih]
set_option maxRecDepth 100000 in
set_option maxHeartbeats 4000000 in
theorem tabEnd_ok (n : Int) (o : Outcome) (h : aget t.runs n = some (q, r)) (hr : RecOk n r) (ho : o.right = true) (s : St w0 w (tabA p t :: L)) :
    Calls Try.prog 15 #[ptr p, int n, outV o] w fun e w' => ∃ v, e = .returned (.tuple #[v, .bool (t.isCur n), int 0]) ∧
      St w0 w' (rowA 137 5 v r.waiters.length (toldAll o r.waiters) :: tabA p (t.fin n) :: L) := by
  have hgt := fun W (hb : Below w.heap.size w W) => get_ok n (s.ext hb)
  have hb0 := belNew w (.cells #[int o.value, int o.fail.kind, int o.fail.code, int o.fail.run] 35)
  obtain ⟨rb, cb, gb, R, s1, hput, _⟩ := (s.ext hb0).tabAt h
  have hj := recEnd_ok o hr.1 ho (by have := hr.2.2; omega) s1
  have hget : aget (amod t.runs n fun y => (y.1, y.2.fin o)) n = some (q, r.fin o) := by rw [aget_amod, if_pos rfl, h]; rfl
  have hic : ({ t with runs := amod t.runs n fun y => (y.1, y.2.fin o) } : Tab).isCur n = t.isCur n := by simp only [Tab.isCur, hget, h]; rfl
  have hfin : t.fin n = { t with runs := adel t.runs n, cur := if t.isCur n then adel t.cur r.run.key else t.cur } := by simp [Tab.fin, Tab.run, h]
  rw [hfin]
  have hcur := fun {W : World} {M : List Asn} (hS : St w0 W (tabA p { t with runs := amod t.runs n fun y => (y.1, y.2.fin o) } :: M)) => tabIsCur_ok n hS
  rw [hic] at hcur
  simp only [h, ptrOf] at hgt
  have hopen : ∀ {W : World} {M : List Asn}, St w0 W (tabA p { t with runs := amod t.runs n fun y => (y.1, y.2.fin o) } :: M) → ∃ rb cb gb R, St w0 W (recA q (r.fin o) :: (tabRest p rb cb gb t.flight t.begun { t with runs := amod t.runs n fun y => (y.1, y.2.fin o) } t.cur t.gens R ++ M)) ∧
      (∀ {w' : World} (cur : List (Key × Int)) (M : List Asn), St w0 w' (tabRest p rb cb gb t.flight t.begun { t with runs := adel t.runs n } cur t.gens R ++ M) → St w0 w' (tabA p { t with runs := adel t.runs n, cur := cur } :: M)) := by
    intro W M hS
    obtain ⟨rb, cb, gb, R, s2, _, h3⟩ := hS.tabAt hget
    refine ⟨rb, cb, gb, R, s2, ?_⟩
    intro w' cur M s3
    have := h3 cur t.gens M (by simpa only [adel_amod] using s3)
    simpa only [adel_amod] using this
  clear hget hic hfin s1 ho
  unfold outV at hj ⊢
  have hrk : r.run.run = n := hr.2.1
  clear hr
  cases hc : t.isCur n
  · simp only [hc] at hcur
    go_enter Try.func15, Try.ntmps15
    go_wp2_with (first
      | (go_at_call 41; refine (hgt _ hb0).mono ?_; rintro e w' ⟨rfl, rfl⟩)
      | (go_at_call 48; refine hj.mono ?_; rintro e w' ⟨v, rfl, s2⟩)
      | fail)
    have s3 := hput (fun y => y.fin o) t.cur t.gens (rowA 137 5 v r.waiters.length (toldAll o r.waiters) :: L) (s2.sort [1, 2, 3, 4, 5, 6, 0] rfl)
    clear s2 hput hj
    refine (hcur s3).mono ?_
    rintro e w2 ⟨rfl, hb2⟩
    obtain ⟨rb, cb, gb, R, s5, hshut⟩ := hopen (s3.ext hb2)
    clear hcur hopen s3 hb2
    have hcp := (s5.sort [1, 0] rfl).cell
    have s6 := s5.sort [2, 0, 1] rfl
    clear s5
    go_wp2_with (first
      | (refine wpList_mapDel rfl _ _ 3 rfl intTy Try.underlying83 s6 rfl n rfl ?_; intro w3 s7))
    go_ret3
    rw [adel_amod] at s7
    have s8 := (s7.sort [1, 2, 0, 3, 4, 5, 6] rfl).drop
    have s9 := hshut t.cur (rowA 137 5 v r.waiters.length (toldAll o r.waiters) :: L) s8
    exact ⟨v, rfl, s9.swap⟩
  · simp only [hc] at hcur
    go_enter Try.func15, Try.ntmps15
    go_wp2_with (first
      | (go_at_call 41; refine (hgt _ hb0).mono ?_; rintro e w' ⟨rfl, rfl⟩)
      | (go_at_call 48; refine hj.mono ?_; rintro e w' ⟨v, rfl, s2⟩)
      | fail)
    have s3 := hput (fun y => y.fin o) t.cur t.gens (rowA 137 5 v r.waiters.length (toldAll o r.waiters) :: L) (s2.sort [1, 2, 3, 4, 5, 6, 0] rfl)
    clear s2 hput hj
    refine (hcur s3).mono ?_
    rintro e w2 ⟨rfl, hb2⟩
    obtain ⟨rb, cb, gb, R, s5, hshut⟩ := hopen (s3.ext hb2)
    clear hcur hopen s3 hb2
    go_wp2_with fail
    obtain ⟨S0, HS⟩ := named [cells p [int t.flight, int t.begun, .map (some rb), .map (some cb), .map (some gb)] 85, recA q (r.fin o)]
    have kp : ∀ W, St w0 W S0 → ∀ i, W.cell? ⟨p, i, none⟩ = [int t.flight, int t.begun, .map (some rb), .map (some cb), .map (some gb)][i]? := fun W h => (h.of HS).cell
    have hrun := fun W (h : St w0 W S0) => recRun_ok ((h.of HS).sort [1, 0] rfl)
    simp only [runV] at hrun
    have s6 : St w0 w2 S0 := St.to HS (St.front 2 (s5.sort [1, 0] rfl))
    have s7 := s5.sort [3, 0, 1, 2] rfl
    clear s5
    go_region_held3 (fun W => St w0 W S0) (first | assumption | exact St.drew (by assumption))
      (first
        | (go_at_call 49; refine (hrun _ (by assumption)).mono ?_; rintro e w3 ⟨rfl, hb3⟩; have s8 := s7.drew.ext hb3; have s9 : St w0 w3 S0 := St.to HS (St.front 2 (s8.sort [2, 1, 0] rfl)); clear s7)
        | ((with_reducible refine upon_mapDel keyTy Try.underlying28 s8 r.run.key _ _ (Key.enc_eq _) ?_); intro w4 s10; have s11 : St w0 w4 S0 := St.to HS (St.front 2 (s10.sort [2, 1, 0] rfl)); clear s8))
    clear kp hrun s9 s6
    have hcp := (s10.sort [2, 0, 1] rfl).cell
    have s12 := s10.sort [3, 0, 1, 2] rfl
    clear s10
    go_wp2_with (first
      | (refine wpList_mapDel rfl _ _ 3 rfl intTy Try.underlying83 s12 rfl n rfl ?_; intro w5 s13))
    go_ret3
    rw [adel_amod] at s13
    have s14 := (s13.sort [2, 3, 0, 1, 4, 5, 6] rfl).drop
    have s15 := hshut (adel t.cur r.run.key) (rowA 137 5 v r.waiters.length (toldAll o r.waiters) :: L) s14
    exact ⟨v, rfl, s15.swap⟩
end Ytfhfkfnffajciaa
end Go.Proofs
