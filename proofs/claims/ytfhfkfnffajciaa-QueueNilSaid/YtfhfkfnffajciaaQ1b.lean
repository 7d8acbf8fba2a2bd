/- Queues by turn: Front, Drop, Take. -/
import Derived.Test.YtfhfkfnffajciaaQ1
namespace Go.Proofs
open Go.RowKit Go.Proofs.Ytfhfkfnffajciaa
namespace Ytfhfkfnffajciaa
variable {w0 w : World} {L : List Asn} {p : Nat}
set_option maxRecDepth 100000 in
set_option maxHeartbeats 1000000 in
theorem turnsSkip_here {q : Turns} {x : Int} (h1 : q.fr < q.to) (h2 : aget q.items q.fr = some x) (s : St w0 w (turnsA p q :: L)) :
    Calls Try.prog 59 #[.pointer (some ⟨p, 0, none⟩)] w fun e w' => (∃ v, e = .returned v) ∧ ∃ n, w' = w.drewN n := by
  obtain ⟨a, b, s⟩ := s.turnsOpen
  have hc := s.cell
  have s2 := s.sort [2, 0, 1] rfl
  have hl := s2.lookupAt intTy Try.underlying109 zeroInt' q.fr
  simp only [orZ_int, h2] at hl
  have h3 : decide (q.fr < q.to) = true := by simpa using h1
  clear h2
  go_enter Try.func59, Try.ntmps59
  go_wp2
  refine wp_loop_rounds 1 ?_
  rw [rounds_succ]
  go_wp2
  go_quiet (fail)
  go_wp2
  go_quiet (fail)
  go_wp2
  exact bodyPost_ret (v := .tuple #[]) (by simp [results, Try.results59, go_sem]) rfl ⟨⟨_, rfl⟩, _, World.drewN_drewN _ _ _⟩
set_option maxRecDepth 100000 in
set_option maxHeartbeats 1000000 in
theorem turnsFront_ok {q : Turns} {x : Int} (h0 : q.tat ≠ []) (h1 : q.fr < q.to) (h2 : aget q.items q.fr = some x) (s : St w0 w (turnsA p q :: L)) :
    Calls Try.prog 25 #[.pointer (some ⟨p, 0, none⟩)] w fun e w' => e = .returned (.tuple #[.int .i64 x, .bool true]) ∧ ∃ n, w' = w.drewN n := by
  have hskip := turnsSkip_here h1 h2 s
  obtain ⟨a, b, s⟩ := s.turnsOpen
  have hc := s.cell
  have s2 := s.sort [2, 0, 1] rfl
  have hl := s2.lookupAt intTy Try.underlying109 zeroInt' q.fr
  simp only [orZ_int, h2, Option.getD_some] at hl
  have hn := (s.sort [1, 0] rfl).lenAt Try.underlying109
  have h3 : ((q.tat.length : Int) == 0) = false := by
    have : q.tat.length ≠ 0 := fun e => h0 (List.eq_nil_of_length_eq_zero e)
    simp; exact h0
  clear h2 h0
  go_enter Try.func25, Try.ntmps25
  go_wp2_with (first | (go_at_call 59; refine hskip.mono ?_; rintro e w' ⟨⟨v, rfl⟩, n, rfl⟩))
  go_quiet (fail)
  go_wp2
  go_ret2
  exact ⟨rfl, _, World.drewN_drewN _ _ _⟩
set_option maxRecDepth 100000 in
set_option maxHeartbeats 1000000 in
theorem turnsDrop_ok {q : Turns} {k x : Int} (h1 : aget q.tat k = some x) (s : St w0 w (turnsA p q :: L)) :
    Calls Try.prog 32 #[.pointer (some ⟨p, 0, none⟩), .int .i64 k] w fun e w' => e = .returned (.bool true) ∧ St w0 w' (turnsA p ⟨adel q.tat k, adel q.items x, q.fr, q.to⟩ :: L) := by
  have hhas := turnsHas_ok k s
  rw [h1] at hhas
  obtain ⟨a, b, s⟩ := s.turnsOpen
  obtain ⟨S0, HS⟩ := named [cells p [.map (some a), .map (some b), .int .i64 q.fr, .int .i64 q.to] 111, mapA (Value.int .i64) (Value.int .i64) a q.tat]
  have kp : ∀ W, St w0 W S0 → ∀ i, W.cell? ⟨p, i, none⟩ = [.map (some a), .map (some b), .int .i64 q.fr, .int .i64 q.to][i]? := fun W h => (h.of HS).cell
  have kl := fun W (h : St w0 W S0) => ((h.of HS).sort [1, 0] rfl).lookup intTy Try.underlying109 zeroInt' k
  simp only [orZ_int, h1, Option.getD_some] at kl
  have s6 : St w0 w S0 := St.to HS (St.front 2 s)
  have s7 := s.sort [2, 0, 1] rfl
  clear s h1
  go_enter Try.func32, Try.ntmps32
  go_wp2_with (first | (go_at_call 34; refine hhas.mono ?_; rintro e w1 ⟨rfl, rfl⟩))
  go_region_held3 (fun W => St w0 W S0) (first | assumption | exact St.drew (by assumption))
    (first
      | (refine upon_mapDel intTy Try.underlying109 s7.drew x _ _ rfl ?_; intro w7 s8; have s9 : St w0 w7 S0 := St.to HS (St.front 2 (s8.sort [1, 2, 0] rfl))))
  have s10 := s8.sort [2, 0, 1] rfl
  have kc := (s10.sort [2, 0, 1] rfl).cell
  clear s8 s9 kl kp
  go_wp2_with (first | (refine upon_mapDel intTy Try.underlying109 s10 k _ _ rfl ?_; intro w11 s11))
  go_ret
  exact ⟨rfl, St.turnsShut (a := a) (b := b) (s11.sort [2, 0, 1] rfl)⟩
set_option maxRecDepth 100000 in
set_option maxHeartbeats 1000000 in
theorem turnsTake_ok {q : Turns} {k : Int} (h0 : q.tat ≠ []) (h1 : q.fr < q.to) (h2 : aget q.items q.fr = some k) (h3 : aget q.tat k = some q.fr) (s : St w0 w (turnsA p q :: L)) :
    Calls Try.prog 24 #[.pointer (some ⟨p, 0, none⟩)] w fun e w' => e = .returned (.tuple #[.int .i64 k, .bool true]) ∧ St w0 w' (turnsA p ⟨adel q.tat k, adel q.items q.fr, q.fr, q.to⟩ :: L) := by
  have hfr := turnsFront_ok h0 h1 h2 s
  have hdr := fun W (h : St w0 W (turnsA p q :: L)) => turnsDrop_ok h3 h
  have H3 := Lib.hid h3
  clear h2 h3
  go_enter Try.func24, Try.ntmps24
  go_wp2_with (first
    | (go_at_call 25; refine hfr.mono ?_; rintro e w' ⟨rfl, n, rfl⟩)
    | (go_at_call 32; refine (hdr _ (s.drewN n)).mono ?_; rintro e w2 ⟨rfl, s2⟩))
  go_ret2
  exact ⟨rfl, s2⟩
end Ytfhfkfnffajciaa
end Go.Proofs
