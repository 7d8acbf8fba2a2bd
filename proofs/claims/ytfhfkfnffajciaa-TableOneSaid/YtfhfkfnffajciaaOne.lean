/- The law TableOne: the walk. -/
import Derived.Test.YtfhfkfnffajciaaTab9
import Derived.Test.YtfhfkfnffajciaaAwake12
import Derived.Test.YtfhfkfnffajciaaOneP
import Derived.Test.YtfhfkfnffajciaaQt
import Derived.Deep.DeepCutAuto
import Derived.Deep.CutBlock
namespace Go.Proofs
open Go.RowKit Go.Proofs.Ytfhfkfnffajciaa

namespace Ytfhfkfnffajciaa
variable {w0 w : World} {L : List Asn} {p : Nat} {t : Tab} {N : Nat}

set_option maxRecDepth 1000000 in
set_option maxHeartbeats 40000000 in
theorem TableOne_walk (fl : Int) (ad : Option Addr) (len cap : Nat) (acts : List Act12) (hl : acts.length = len) (hN : NOk (2 * len)) (ha : 0 < len → ∃ b o, ad = some ⟨b, o, none⟩ ∧ ActsAt w b o acts)
    (hk : ∀ x ∈ acts, (x.key.name.size : Int) ≤ 9223372036854775807) :
    Calls Try.prog 3 #[int fl, .slice ad len cap] w fun e w' => e = .returned (.bool true) ∧ Below w.heap.size w w' := by
  by_cases hfl : fl < 1 ∨ 4096 < fl
  · have s0 := St.init w
    have hnew := New_bad fl hfl w
    clear hl hN ha hk hfl
    go_enter Try.func3, Try.ntmps3
    go_wp2_with (first
      | (go_at_call 6; refine hnew.mono ?_; rintro e w1 ⟨rfl, rfl⟩)
      | (go_at_call 7; refine (awake12 (by assumption : St w _ [])).mono ?_; rintro e w2 ⟨rfl, s2⟩))
    go_ret
    exact ⟨rfl, St.below (by assumption : St w _ [])⟩
  · have s0 := St.init w
    have hnew := New_ok fl (by omega) (by omega) s0
    have hmm := @run_makeMap Try.prog
    have H1 := Lib.hid hl
    have H2 := Lib.hid hN
    have H3 := Lib.hid ha
    have H5 := Lib.hid hk
    have H6 := Lib.hid hfl
    clear hl hN ha hk hfl
    go_enter Try.func3, Try.ntmps3
    go_wp2_with (first
      | (go_at_call 6; refine hnew.mono ?_; rintro e w1 ⟨p, rfl, s1⟩)
      | (go_at_call 7; refine (awake12 s1).mono ?_; rintro e w2 ⟨rfl, s2⟩))
    have s3 := s2.mapNew (K := Key) (V := Int) (enc := Key.enc) (venc := int)
    clear s1 s2 hnew
    go_loopw [42] (fun i wr => OneRel w p w2.heap.size len fl i wr) (fun i _ => len - (intOf i).toNat)
    case atStart => exact ⟨0, Tab.new fl, [], Nat.zero_le _, rfl, TInv.new fl (by have := H6.out; omega) (by have := H6.out; omega), rfl, fun k => Int.le_refl _, s3.swap⟩
    case round =>
      obtain ⟨k, t, gl, hk, rfl, hI, htf, hgl, hS⟩ := hrel
      clear s3
      by_cases hkn : k < len
      · obtain ⟨b, o, rfl, hat⟩ := H3.out (by omega)
        obtain ⟨x, hx⟩ : ∃ x, acts[k]? = some x := ⟨_, List.getElem?_eq_getElem (by have := H1.out; omega)⟩
        have hcells := hat k x hx
        have hidx := fun W => run_indexAt_rows Try.underlying22 (size := 10) Try.sizeOf37 W b o len cap k hkn
        have hbw : b < w.heap.size := by
          have := hcells 0 _ rfl
          exact cell_lt this
        have hcw : ∀ j v, x.cells[j]? = some v → wr.cell? ⟨b, o + k * 10 + j, none⟩ = some v := fun j v hj => (hS.below.cell (p := ⟨b, _, none⟩) hbw).trans (hcells j v hj)
        generalize o + k * 10 = e at hidx hcw
        have c0 := hcw 0 _ rfl
        have c1 := hcw 1 _ rfl
        have c2 := hcw 2 _ rfl
        have c3 := hcw 3 _ rfl
        have c4 := hcw 4 _ rfl
        have c5 := hcw 5 _ rfl
        have c6 := hcw 6 _ rfl
        have c7 := hcw 7 _ rfl
        have c8 := hcw 8 _ rfl
        have c9 := hcw 9 _ rfl
        rw [Nat.add_zero] at c0
        have hnm := H5.out x (List.mem_of_getElem? hx)
        have H8 := Lib.hid hx
        have H9 := Lib.hid hgl
        have H10 := Lib.hid htf
        have H11 := Lib.hid hI
        have H12 := Lib.hid hnm
        clear hcells hcw hx hgl htf hI H3 H6 hnm hat
        have sA := hS.allocCells x.cells 37
        obtain ⟨M, HM⟩ := named [cells wr.heap.size x.cells 37, tabA p t, mapA Key.enc int w2.heap.size gl]
        have sM : St w (wr.alloc (.cells x.cells.toArray 37)) M := sA.to HM
        have kx : ∀ W, St w W M → ∀ i, W.cell? ⟨wr.heap.size, i, none⟩ = [int x.kind, int x.run, int x.caller, .bool x.refresh, .int .u16 x.key.space, .string x.key.name, int x.out.value, int x.out.fail.kind, int x.out.fail.code, int x.out.fail.run][i]? := fun W h => (h.of HM).cell
        have hcan := fun W (h : St w W M) => tabCancelled_ok x.run ((h.of HM).sort [1, 0] rfl)
        have hbgn := fun W (h : St w W M) => Begun_ok ((h.of HM).sort [1, 0] rfl)
        have hgen := fun W (h : St w W M) => Generation_ok x.key ((h.of HM).sort [1, 0] rfl)
        go_wp2_with (first | (go_at_call 8; refine (hcan _ sM).mono ?_; rintro e w4 ⟨rfl, rfl⟩))
        obtain ⟨w4, hw4⟩ : ∃ w4, wr.alloc (.cells x.cells.toArray 37) = w4 := ⟨_, rfl⟩
        rw [hw4] at sM ⊢
        clear hw4 sA hS c0 c1 c2 c3 c4 c5 c6 c7 c8 c9 hidx hcan
        go_region_held3 (fun W => St w W M) (first | assumption | exact St.drew (by assumption))
          (first
            | (go_at_call 9; refine (hbgn _ (by assumption)).mono ?_; rintro e w5 ⟨rfl, rfl⟩)
            | (go_at_call 10; refine (hgen _ (by assumption)).mono ?_; rintro e w6 ⟨rfl, hb6⟩; have s6 := St.ext (by assumption : St w _ M) hb6))
        obtain ⟨was, Hwas⟩ : ∃ was, Hid ((aget t.gens x.key).getD 0 = was) := ⟨_, rfl⟩
        obtain ⟨bg, Hbg⟩ : ∃ bg, Hid (t.begun = bg) := ⟨_, rfl⟩
        rw [Hwas.out, Hbg.out]
        obtain ⟨cx, Hcx⟩ : ∃ cx, Hid (t.cancelled x.run = cx) := ⟨_, rfl⟩
        rw [Hcx.out]
        clear hbgn hgen
        obtain ⟨kk, hkk⟩ : ∃ kk, (wrap64 (x.kind.tmod 9 + 9)).tmod 9 = kk := ⟨_, rfl⟩
        go_upto_region 11 with (fail)
        go_upto_block 2 with (fail)
        have hkb : 0 ≤ kk ∧ kk ≤ 8 := by
          have h1 : -9 < x.kind.tmod 9 ∧ x.kind.tmod 9 < 9 := ⟨by have := Int.lt_tmod_of_pos x.kind (b := 9) (by decide); omega, Int.tmod_lt_of_pos _ (by decide)⟩
          have h2 : wrap64 (x.kind.tmod 9 + 9) = x.kind.tmod 9 + 9 := IntWalk.wrap64_in _ (by omega)
          rw [h2] at hkk
          have h3 := Int.tmod_lt_of_pos (x.kind.tmod 9 + 9) (b := 9) (by decide)
          have h4 := Int.tmod_nonneg (a := x.kind.tmod 9 + 9) 9 (by omega)
          omega
        clear hkk
        go_cut [14] (fun _ wx => OneMid2 w p w2.heap.size (2 * k + 2) fl gl x wr.heap.size was kk wx)
        case first =>
          have hI := H11.out
          have hN2 : NOk (2 * k) := by have h2 : ((2 * len : Nat) + 2 : Int) * 40 ≤ 140737488355328 := H2.out; show ((2 * k : Nat) + 2 : Int) * 40 ≤ 140737488355328; omega
          have sT := (s6.of HM).sort [1, 0] rfl
          have hwas : 0 ≤ was := by have := (hI.gens x.key).1; have h2 := Hwas.out; simp only [Tab.gen] at this; omega
          have fin : ∀ (t' : Tab) (wx : World), TInv t' (2 * k + 2) → TStep t t' → (kk = 6 → x.key.name.size ≤ 64 → t'.gen x.key = t.gen x.key + 1) → St w wx (tabA p t' :: cells wr.heap.size x.cells 37 :: [mapA Key.enc int w2.heap.size gl]) →
              OneMid2 w p w2.heap.size (2 * k + 2) fl gl x wr.heap.size was kk wx := by
            intro t' wx h1 h2 h3 h4
            have e1 : t.gen x.key = was := Hwas.out
            have h5 := h2.up x.key
            refine ⟨t', h1, h2.fl.trans H10.out, fun k' => Int.le_trans (H9.out k') (h2.up k').1, by omega, by omega, fun a b => by rw [h3 a b, e1], hwas, h4.sort [1, 0] rfl⟩
          have hjn := actJoin (w0 := w) (w := w6) (p := p) x.run x.caller hI hN2 sT
          have hlv := actLeave (w0 := w) (w := w6) (p := p) x.run x.caller hI hN2 sT
          have hrl := actRelease (w0 := w) (w := w6) (p := p) x.run hI hN2 sT
          have hfg := actForget (w0 := w) (w := w6) (p := p) x.key H12.out hI hN2 sT
          have hen := actEnd (w0 := w) (w := w6) (p := p) x.run x.out hI hN2 sT
          have hbe := actBegin (w0 := w) (w := w6) (p := p) x.key x.caller x.refresh H12.out hI hN2 sT
          have FIN := Lib.hid fin
          clear fin hwas hN2 hI sT
          simp only [outV] at hen
          rcases (show kk = 0 ∨ kk = 1 ∨ kk = 2 ∨ kk = 3 ∨ kk = 4 ∨ kk = 5 ∨ kk = 6 ∨ kk = 7 ∨ kk = 8 from by omega) with rfl | rfl | rfl | rfl | rfl | rfl | rfl | rfl | rfl
          all_goals clear hkb
          · as_aux_lemma =>
              go_wp2_with fail
              refine hbe.mono ?_
              rintro e w7 ⟨nn, er, t', rfl, h1, h2, h3, s7⟩
              by_cases he : er = 0
              · obtain rfl : nn = bg + 1 := by have := Hbg.out; have := h1 he; omega
                subst he
                have hw : IntKind.i64.wrap (bg + 1) = bg + 1 := IntWalk.i64_in _ (by have := Hbg.out; have := H11.out.bg; have h6 : ((2 * len : Nat) + 2 : Int) * 40 ≤ 140737488355328 := H2.out; omega)
                have F := FIN.out t' w7 h2 h3 (fun h => by omega) s7
                clear h1 h2 h3 s7
                go_wp2_with fail
                go_meet
                exact F
              · have he' : (er == 0) = false := by simpa using he
                have F := FIN.out t' w7 h2 h3 (fun h => by omega) s7
                clear h1 h2 h3 s7
                go_wp2_with fail
                go_meet
                exact F
          · as_aux_lemma =>
              go_wp2_with fail
              refine hbe.mono ?_
              rintro e w7 ⟨nn, er, t', rfl, h1, h2, h3, s7⟩
              by_cases he : er = 0
              · obtain rfl : nn = bg + 1 := by have := Hbg.out; have := h1 he; omega
                subst he
                have hw : IntKind.i64.wrap (bg + 1) = bg + 1 := IntWalk.i64_in _ (by have := Hbg.out; have := H11.out.bg; have h6 : ((2 * len : Nat) + 2 : Int) * 40 ≤ 140737488355328 := H2.out; omega)
                have F := FIN.out t' w7 h2 h3 (fun h => by omega) s7
                clear h1 h2 h3 s7
                go_wp2_with fail
                go_meet
                exact F
              · have he' : (er == 0) = false := by simpa using he
                have F := FIN.out t' w7 h2 h3 (fun h => by omega) s7
                clear h1 h2 h3 s7
                go_wp2_with fail
                go_meet
                exact F
          · as_aux_lemma =>
              go_wp2_with fail
              refine hjn.mono ?_
              rintro e w7 ⟨er, t', rfl, h1, h2, h3, s7⟩
              have F := FIN.out t' w7 h2 h3 (fun h => by omega) s7
              by_cases he : er = 0
              · obtain rfl : cx = false := by rw [← Hcx.out]; exact h1 he
                subst he
                clear h1 h2 h3 s7
                go_wp2_with fail
                go_meet
                exact F
              · have he' : (er == 0) = false := by simpa using he
                clear h1 h2 h3 s7
                go_wp2_with fail
                go_meet
                exact F
          · as_aux_lemma =>
              go_wp2_with fail
              refine hlv.mono ?_
              rintro e w7 ⟨a1, b1, er, t', rfl, h2, h3, s7⟩
              have F := FIN.out t' w7 h2 h3 (fun h => by omega) s7
              clear h2 h3 s7
              go_wp2_with fail
              go_meet
              exact F
          · as_aux_lemma =>
              go_wp2_with fail
              refine hlv.mono ?_
              rintro e w7 ⟨a1, b1, er, t', rfl, h2, h3, s7⟩
              have F := FIN.out t' w7 h2 h3 (fun h => by omega) s7
              clear h2 h3 s7
              go_wp2_with fail
              go_meet
              exact F
          · as_aux_lemma =>
              go_wp2_with fail
              refine hrl.mono ?_
              rintro e w7 ⟨a1, b1, er, t', rfl, h2, h3, s7⟩
              have F := FIN.out t' w7 h2 h3 (fun h => by omega) s7
              clear h2 h3 s7
              go_wp2_with fail
              go_meet
              exact F
          · as_aux_lemma =>
              go_wp2_with fail
              refine hfg.mono ?_
              rintro e w7 ⟨a1, b1, er, t', rfl, h1, h2, h3, s7⟩
              have F := FIN.out t' w7 h2 h3 (fun _ => h1) s7
              clear h1 h2 h3 s7
              go_wp2_with fail
              go_meet
              exact F
          · as_aux_lemma =>
              go_wp2_with fail
              refine hen.mono ?_
              rintro e w7 ⟨v1, b1, er, t', rfl, h2, h3, s7⟩
              have F := FIN.out t' w7 h2 h3 (fun h => by omega) s7
              clear h2 h3 s7
              go_wp2_with fail
              go_meet
              exact F
          · as_aux_lemma =>
              go_wp2_with fail
              refine hbe.mono ?_
              rintro e w7 ⟨nn, er, t', rfl, h1, h2, h3, s7⟩
              by_cases he : er = 0
              · obtain rfl : nn = bg + 1 := by have := Hbg.out; have := h1 he; omega
                subst he
                have hw : IntKind.i64.wrap (bg + 1) = bg + 1 := IntWalk.i64_in _ (by have := Hbg.out; have := H11.out.bg; have h6 : ((2 * len : Nat) + 2 : Int) * 40 ≤ 140737488355328 := H2.out; omega)
                have F := FIN.out t' w7 h2 h3 (fun h => by omega) s7
                clear h1 h2 h3 s7
                go_wp2_with fail
                go_meet
                exact F
              · have he' : (er == 0) = false := by simpa using he
                have F := FIN.out t' w7 h2 h3 (fun h => by omega) s7
                clear h1 h2 h3 s7
                go_wp2_with fail
                go_meet
                exact F
        case rest =>
          obtain ⟨t2, hI2, hfl2, hgl2, hw1, hw2, hw3, hw0, hS2⟩ := hcut
          have hNN : ((2 * len : Nat) + 2 : Int) * 40 ≤ 140737488355328 := H2.out
          have hN2 : NOk (2 * k + 2) := by show ((2 * k + 2 : Nat) + 2 : Int) * 40 ≤ 140737488355328; omega
          have hpr := fun {W : World} (h : St w W [mapA Run.enc Value.bool wc.heap.size ([] : List (Run × Bool)), cells wr.heap.size x.cells 37, tabA p t2, mapA Key.enc int w2.heap.size gl]) => actProgress hI2 hN2 (h.sort [2, 0, 1] rfl)
          have s8 := hS2.mapNew (K := Run) (V := Bool) (enc := Run.enc) (venc := Value.bool)
          have J1 := Lib.hid hI2
          have J2 := Lib.hid hfl2
          have J3 := Lib.hid hgl2
          have J4 := Lib.hid hw1
          have J5 := Lib.hid hw2
          have J6 := Lib.hid hw3
          have J7 := Lib.hid hw0
          clear hI2 hfl2 hgl2 hw1 hw2 hw3 hw0 hNN hN2 hS2 s6 kx H9 H10 H11 Hwas Hbg Hcx
          go_wp2_with fail
          refine (hpr s8).mono ?_
          rintro e w9 ⟨pa, pc, rfl, hb9, s9⟩
          clear hpr s8
          have s10 := s9.sort [2, 0, 1, 3, 4] rfl
          clear s9 hb9
          generalize wr.heap.size = bx at s10 ⊢
          generalize wc.heap.size = sb at s10 ⊢
          go_wp2_with fail
          go_loopw [131] (fun i wr3 => OneIn w p w2.heap.size sb bx x t2 (.slice pa t2.runs.length pc) i wr3) (fun i _ => t2.runs.length - (intOf i).toNat)
          case atStart => exact ⟨0, gl, [], Nat.zero_le _, rfl, J3.out, (fun one h => by cases h), s10⟩
          case round =>
            obtain ⟨j, gl3, seen, hj, rfl, hg3, hsn, hS3⟩ := hrel
            have G1 := Lib.hid hg3
            have G2 := Lib.hid hsn
            clear s10 hg3 hsn
            by_cases hjn : j < t2.runs.length
            · rcases (hS3.sort [1, 0] rfl).rowOpen with ⟨hv, hv2, _⟩ | ⟨g, cap2, sp2, hv, _, _, _, _, hS4⟩
              · omega
              · cases hv
                have hjk : j < (akeys t2.runs).length := by simpa [akeys] using hjn
                obtain ⟨n0, hn0⟩ : ∃ n0, (akeys t2.runs)[j]? = some n0 := ⟨_, List.getElem?_eq_getElem hjk⟩
                obtain ⟨x0, hx0⟩ := mem_akeys.1 (List.mem_of_getElem? hn0)
                have hgk : wr.cell? ⟨g, j, none⟩ = some (int n0) := by rw [hS4.cell, List.getElem?_append_left (by simpa using hjk), List.getElem?_map, hn0]; rfl
                have hrn := tabRun_ok n0 (hS3.sort [2, 0, 1] rfl)
                rw [hx0] at hrn
                obtain ⟨r0, hr0⟩ : ∃ r0, t2.run n0 = r0 := ⟨_, rfl⟩
                rw [hr0] at hrn
                simp only [runV, Option.isSome_some] at hrn
                have G3 := Lib.hid hn0
                have G4 := Lib.hid hx0
                have G5 := Lib.hid hr0
                clear hn0 hx0 hr0 hS4 hjk
                go_wp2_with fail
                refine hrn.mono ?_
                rintro e w10 ⟨rfl, hb10⟩
                have s11 := hS3.ext hb10
                clear hrn hgk hS3 hb10
                go_upto_region 33 with (fail)
                have sA := (s11.allocCells [int r0.run, .int .u16 r0.key.space, .string r0.key.name, int r0.gen, .bool r0.refresh] 58).allocCells [int 0, .int .u16 r0.key.space, .string r0.key.name, int r0.gen, .bool false] 58
                simp only [World.size_alloc] at sA
                obtain ⟨w12, hw12⟩ : ∃ W, (w10.alloc (.cells #[int r0.run, .int .u16 r0.key.space, .string r0.key.name, int r0.gen, .bool r0.refresh] 58)).alloc (.cells #[int 0, .int .u16 r0.key.space, .string r0.key.name, int r0.gen, .bool false] 58) = W := ⟨_, rfl⟩
                rw [hw12] at sA ⊢
                clear hw12
                have I0 := J1.out
                have hus := one_unseen I0 G3.out G4.out G2.out
                have hge := gen_le I0 G4.out
                have hwn := wait_none (n0 := n0) I0
                rw [G5.out] at hus hge
                have hN2 : NOk (2 * k + 2) := by have h := H2.out; show ((2 * k + 2 : Nat) + 2 : Int) * 40 ≤ 140737488355328; have h' : ((2 * len : Nat) + 2 : Int) * 40 ≤ 140737488355328 := h; omega
                have hrok := fun {n : Int} => I0.recOk (n := n) hN2
                obtain ⟨gk, hgk⟩ : ∃ gk, t2.gen r0.key = gk := ⟨_, rfl⟩
                obtain ⟨gv, hgv⟩ : ∃ gv, (aget gl3 r0.key).getD 0 = gv := ⟨_, rfl⟩
                have hgv2 : gv ≤ gk := by rw [← hgv, ← hgk]; exact G1.out r0.key
                rw [hgk] at hge
                obtain ⟨M2, HM2⟩ := named [cells (w10.heap.size + 1) [int 0, .int .u16 r0.key.space, .string r0.key.name, int r0.gen, .bool false] 58, cells w10.heap.size [int r0.run, .int .u16 r0.key.space, .string r0.key.name, int r0.gen, .bool r0.refresh] 58, mapA Run.enc Value.bool sb seen, rowA 3 1 (Value.slice (some { block := g, off := 0 }) t2.runs.length pc) t2.runs.length ((akeys t2.runs).map int), tabA p t2, cells bx x.cells 37, mapA Key.enc int w2.heap.size gl3]
                have sM2 := sA.to HM2
                have ko : ∀ W, St w W M2 → ∀ i, W.cell? ⟨w10.heap.size + 1, i, none⟩ = [int 0, .int .u16 r0.key.space, .string r0.key.name, int r0.gen, .bool false][i]? := fun W h => (h.of HM2).cell
                have kr : ∀ W, St w W M2 → ∀ i, W.cell? ⟨w10.heap.size, i, none⟩ = [int r0.run, .int .u16 r0.key.space, .string r0.key.name, int r0.gen, .bool r0.refresh][i]? := fun W h => ((h.of HM2).sort [1, 0] rfl).cell
                have kl := fun W (h : St w W M2) => ((h.of HM2).sort [2, 0, 1] rfl).lookup runTy Try.underlying54 zeroBool (oneOf r0)
                simp only [Run.enc, oneOf, orZ_bool] at kl
                simp only [oneOf] at hus
                rw [hus] at kl
                have hgn := fun W (h : St w W M2) => Generation_ok r0.key ((h.of HM2).sort [4, 0, 1, 2, 3] rfl)
                have e2 : (aget t2.gens r0.key).getD 0 = gk := hgk
                rw [e2] at hgn
                have hcn := fun W (h : St w W M2) => tabCancelled_ok n0 ((h.of HM2).sort [4, 0, 1, 2, 3] rfl)
                have q1 : decide (gk < r0.gen) = false := by simpa using hge
                have hwt : ∀ W, St w W M2 → Calls Try.prog 19 #[ptr p, int n0] W fun e w' => ∃ ad c, e = .returned (.slice ad (t2.waiters n0).length c) ∧ Below W.heap.size W w' := by
                  intro W h
                  refine (tabWaiters_ok n0 (fun x hx => hrok x hx) ((h.of HM2).sort [4, 0, 1, 2, 3] rfl)).mono ?_
                  rintro e w' ⟨v, rfl, hb, s'⟩
                  obtain ⟨ad, c, rfl⟩ := s'.rowShape
                  exact ⟨ad, c, rfl, hb⟩
                have G6 := Lib.hid hgk
                have G7 := Lib.hid hgv
                have G8 := Lib.hid hgv2
                clear hus hge hN2 hrok hgk hgv hgv2 e2 I0 sA s11 hkb
                go_cut [173] (fun v wx => v = .bool false ∧ St w wx M2)
                case first =>
                  cases hcc : t2.cancelled n0
                  · as_aux_lemma =>
                    rw [hcc] at hcn
                    clear hwn hwt hcc
                    have kr' := fun p : StW w M2 => kr p.W p.h
                    have ko' := fun p : StW w M2 => ko p.W p.h
                    have kl' := fun p : StW w M2 => kl p.W p.h
                    clear kr ko kl
                    refine wp_region_quiet_st (by kernel_rfl) (by kernel_rfl) sM2 ?_
                    repeat (go_big_quiet_step ((first | rfl | exact calls_st (hgn _ (StW.h _)) | exact calls_st_same (hcn _ (StW.h _)))))
                    refine wpQuiet_nil ?_
                    intro _ hw'
                    obtain ⟨⟨w13, s13⟩, rfl⟩ := hw'
                    go_wp2_with fail
                    go_meet
                    exact ⟨rfl, s13⟩
                  · as_aux_lemma =>
                    rw [hcc] at hcn
                    rw [hwn hcc, List.length_nil] at hwt
                    clear hwn hcc
                    go_region_held3 (fun W => St w W M2) (first | assumption | exact St.drew (by assumption) | exact St.drew (St.drewN (by assumption) _))
                      (first
                        | (go_at_call 10; refine (hgn _ (by assumption)).mono ?_; rintro e w13 ⟨rfl, hb13⟩; have s13 := St.ext (by assumption : St w _ M2) hb13)
                        | (go_at_call 8; refine (hcn _ (by assumption)).mono ?_; rintro e w14 ⟨rfl, rfl⟩)
                        | (go_at_call 19; refine (hwt _ (by assumption)).mono ?_; rintro e w15 ⟨ad15, c15, rfl, hb15⟩; have s15 := St.ext (by assumption : St w _ M2) hb15))
                    all_goals (go_wp2_with fail; go_meet; exact ⟨rfl, by assumption⟩)
                case rest =>
                  obtain ⟨rfl, s13⟩ := hcut
                  clear hwn hwt
                  as_aux_lemma =>
                    go_upto_region 35 with (fail)
                    have sN := (s13.of HM2).sort [2, 0, 1, 3, 4, 5, 6] rfl
                    have ko' := (s13.of HM2).cell
                    clear ko kr kl hgn hcn
                    go_wp2_with (at_mapUpdate; refine wpList_mapPut rfl _ _ _ rfl runTy Try.underlying54 sN rfl (oneOf r0) rfl true rfl ?_; intro w16 s16)
                    clear ko' sN
                    obtain ⟨M3, HM3⟩ := named [mapA Run.enc Value.bool sb (aput seen (oneOf r0) true), cells (w10.heap.size + 1) [int 0, .int .u16 r0.key.space, .string r0.key.name, int r0.gen, .bool false] 58, cells w10.heap.size [int r0.run, .int .u16 r0.key.space, .string r0.key.name, int r0.gen, .bool r0.refresh] 58, rowA 3 1 (Value.slice (some { block := g, off := 0 }) t2.runs.length pc) t2.runs.length ((akeys t2.runs).map int), tabA p t2, cells bx x.cells 37, mapA Key.enc int w2.heap.size gl3]
                    have s17 : St w w16 M3 := s16.to HM3
                    clear s16
                    obtain ⟨M4, HM4⟩ := named [cells w10.heap.size [int r0.run, .int .u16 r0.key.space, .string r0.key.name, int r0.gen, .bool r0.refresh] 58, tabA p t2]
                    have m34 : ∀ W, St w W M3 → St w W M4 := fun W h => St.to HM4 (St.front 2 ((h.of HM3).sort [2, 4, 0, 1, 3] rfl))
                    have kr : ∀ W, St w W M4 → ∀ i, W.cell? ⟨w10.heap.size, i, none⟩ = [int r0.run, .int .u16 r0.key.space, .string r0.key.name, int r0.gen, .bool r0.refresh][i]? := fun W h => (h.of HM4).cell
                    have kg := fun W (h : St w W M3) => ((h.of HM3).sort [6, 0, 1, 2, 3, 4, 5] rfl).lookup keyTy Try.underlying28 zeroInt r0.key
                    have e3 := G7.out
                    simp only [Key.enc, orZ_int, e3] at kg
                    have hgn := fun W (h : St w W M4) => Generation_ok r0.key ((h.of HM4).sort [1, 0] rfl)
                    have e2 : (aget t2.gens r0.key).getD 0 = gk := G6.out
                    rw [e2] at hgn
                    have kr3 : ∀ W, St w W M3 → ∀ i, W.cell? ⟨w10.heap.size, i, none⟩ = [int r0.run, .int .u16 r0.key.space, .string r0.key.name, int r0.gen, .bool r0.refresh][i]? := fun W h => kr W (m34 W h)
                    have hgn3 := fun W (h : St w W M3) => hgn W (m34 W h)
                    have q2 : decide (gk < gv) = false := by have := G8.out; simpa using this
                    clear e2 e3
                    go_wp2_with fail
                    go_region_held3 (fun W => St w W M3) (first | assumption | exact St.drew (by assumption)) (first
                      | (go_at_call 10; refine (hgn3 _ (by assumption)).mono ?_; rintro e w18 ⟨rfl, hb18⟩; have s18 := St.ext (by assumption : St w _ M3) hb18))
                    all_goals
                      clear kr3 hgn3 kg
                      go_upto_region 38 with (fail)
                      have s19 := m34 _ s18
                      go_region_held3 (fun W => St w W M4) (first | assumption | exact St.drew (by assumption)) (first
                        | (go_at_call 10; refine (hgn _ (by assumption)).mono ?_; rintro e w20 ⟨rfl, hb20⟩; have s20 := St.ext (s18.drew) hb20; have s21 := m34 _ s20)
                        | (refine upon_mapPut keyTy Try.underlying28 ((s20.of HM3).sort [6, 0, 1, 2, 3, 4, 5] rfl) r0.key rfl gk rfl ?_; intro w22 s22; have s23 : St w w22 M4 := St.to HM4 (St.front 2 (s22.sort [3, 5, 0, 1, 2, 4] rfl))))
                      clear kr hgn q2
                      have g1 : ∀ k, (aget (aput gl3 r0.key gk) k).getD 0 ≤ t2.gen k := by have h := gens_put (t := t2) r0.key G1.out; rw [G6.out] at h; exact h
                      have g2 : ∀ one, (aget (aput seen (oneOf r0) true) one).getD false = true → ∃ m ∈ (akeys t2.runs).take (j + 1), one = oneOf (t2.run m) := by have h := seen_put G3.out G2.out; rw [G5.out] at h; exact h
                      have s24 := St.front 5 (s22.sort [1, 4, 5, 6, 0, 2, 3] rfl)
                      have hj4 : (t2.runs.length : Int) ≤ 4096 := by have := J1.out.len; have := J1.out.fl; omega
                      have g3 := Lib.hid g1
                      have g4 := Lib.hid g2
                      clear g1 g2 s22 s23
                      go_wp2_with fail
                      go_roundw
                      case rel => exact ⟨j + 1, _, _, by omega, by go_num, g3.out, g4.out, s24⟩
                      case measure => simp [intOf]; omega
            · have hjn2 : decide ((j : Int) < (t2.runs.length : Int)) = false := by simp; omega
              have hjn3 : decide (j < t2.runs.length) = false := by simp; omega
              go_upto_region 40 with (fail)
              have hgC := Generation_ok x.key (hS3.sort [2, 0, 1] rfl)
              have hNN : ((2 * len : Nat) + 2 : Int) * 40 ≤ 140737488355328 := H2.out
              have hN2 : NOk (2 * k + 2) := by show ((2 * k + 2 : Nat) + 2 : Int) * 40 ≤ 140737488355328; omega
              have hpC := fun {W : World} (hb : Below wr.heap.size wr W) => actProgress J1.out hN2 ((hS3.ext hb).sort [2, 0, 1] rfl)
              have kx := (hS3.sort [3, 0, 1, 2] rfl).cell
              simp only [Act12.cells] at kx
              have hwb : was < 4611686018427387904 := by have h1 := (J1.out.gens x.key).2; have := J4.out; omega
              have hw0 := J7.out
              have hlf : decide (fl < (t2.runs.length : Int)) = false := by have := J1.out.len; have := J2.out; simp; omega
              obtain ⟨now, hnow⟩ : ∃ now, t2.gen x.key = now := ⟨_, rfl⟩
              have hn1 := J4.out
              have hn2 := J5.out
              have hn3 := J6.out
              rw [hnow] at hn1 hn2 hn3
              have hgC2 : Calls Try.prog 10 #[ptr p, .agg #[.int .u16 x.key.space, .string x.key.name]] wr fun e w' => e = .returned (int now) ∧ Below wr.heap.size wr w' := by
                rw [← hnow]; exact hgC
              have G6 := Lib.hid hn3
              clear hgC hnow hNN hn3 hjn hjn2 hjn3 hj
              go_wp2_with fail
              refine hgC2.mono ?_
              rintro e w11 ⟨rfl, hb11⟩
              clear kx
              have kx := ((hS3.ext hb11).sort [3, 0, 1, 2] rfl).cell
              simp only [Act12.cells] at kx
              have q1 : decide (now < was) = false := by simpa using hn1
              have q2 : decide (was + 1 < now) = false := by simpa using hn2
              have hw : IntKind.i64.wrap (was + 1) = was + 1 := IntWalk.i64_in _ (by omega)
              clear hwb hw0 hn1 hn2 hkb
              have hlb : (len : Int) ≤ 1759218604441 := by have h := H2.out; unfold NOk at h; omega
              by_cases h6 : kk = 6
              · have e6 : (kk == 6) = true := by simpa using h6
                by_cases h64 : x.key.name.size ≤ 64
                · obtain rfl : now = was + 1 := G6.out h6 h64
                  have e64 : decide ((x.key.name.size : Int) ≤ 64) = true := by simp; omega
                  as_aux_lemma =>
                    have I2 : TInv t2 (2 * (k + 1)) := by have h := J1.out; rw [show 2 * (k + 1) = 2 * k + 2 from by omega]; exact h
                    have I3 := Lib.hid I2
                    have hpD := hpC hb11
                    clear hpC I2
                    go_wp2_with (go_at_call 17; refine hpD.mono ?_; rintro e w12 ⟨pa2, pc2, rfl, hb12, s12⟩; have s13 : St w w12 [tabA p t2, mapA Key.enc int w2.heap.size gl3] := St.front 2 (s12.sort [1, 5, 0, 2, 3, 4] rfl); clear s12 hb12 hpD)
                    go_roundw
                    case rel => exact ⟨k + 1, t2, gl3, by omega, by go_num, I3.out, J2.out, G1.out, s13⟩
                    case measure => simp [intOf]; omega
                · have e64 : decide ((x.key.name.size : Int) ≤ 64) = false := by simp; omega
                  as_aux_lemma =>
                    have I2 : TInv t2 (2 * (k + 1)) := by have h := J1.out; rw [show 2 * (k + 1) = 2 * k + 2 from by omega]; exact h
                    have I3 := Lib.hid I2
                    have hpD := hpC hb11
                    clear hpC I2
                    go_wp2_with (go_at_call 17; refine hpD.mono ?_; rintro e w12 ⟨pa2, pc2, rfl, hb12, s12⟩; have s13 : St w w12 [tabA p t2, mapA Key.enc int w2.heap.size gl3] := St.front 2 (s12.sort [1, 5, 0, 2, 3, 4] rfl); clear s12 hb12 hpD)
                    go_roundw
                    case rel => exact ⟨k + 1, t2, gl3, by omega, by go_num, I3.out, J2.out, G1.out, s13⟩
                    case measure => simp [intOf]; omega
              · have e6 : (kk == 6) = false := by simpa using h6
                as_aux_lemma =>
                  have I2 : TInv t2 (2 * (k + 1)) := by have h := J1.out; rw [show 2 * (k + 1) = 2 * k + 2 from by omega]; exact h
                  have I3 := Lib.hid I2
                  have hpD := hpC hb11
                  clear hpC I2
                  go_wp2_with (go_at_call 17; refine hpD.mono ?_; rintro e w12 ⟨pa2, pc2, rfl, hb12, s12⟩; have s13 : St w w12 [tabA p t2, mapA Key.enc int w2.heap.size gl3] := St.front 2 (s12.sort [1, 5, 0, 2, 3, 4] rfl); clear s12 hb12 hpD)
                  go_roundw
                  case rel => exact ⟨k + 1, t2, gl3, by omega, by go_num, I3.out, J2.out, G1.out, s13⟩
                  case measure => simp [intOf]; omega
      · obtain rfl : k = len := by omega
        go_wp2
        go_ret
        exact ⟨rfl, hS.below⟩
end Ytfhfkfnffajciaa
end Go.Proofs
