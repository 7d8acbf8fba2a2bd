/- Records: End. -/
import Derived.Test.YtfhfkfnffajciaaRec2
import Derived.Test.YtfhfkfnffajciaaFail
import Derived.BigRegion
namespace Go.Proofs
open Go.RowKit Go.Proofs.Ytfhfkfnffajciaa
namespace Ytfhfkfnffajciaa
set_option linter.unusedSectionVars false
variable {w0 w : World} {L : List Asn} {p q : Nat} {t : Tab} {r : Rec}

def toldCells (o : Outcome) (c : Int) : List Value := [int c, int o.value, int o.fail.kind, int o.fail.code, int o.fail.run]
def toldAll (o : Outcome) (ws : List Int) : List Value := ws.flatMap (toldCells o)
def Rec.fin (r : Rec) (o : Outcome) : Rec := { r with waiters := [], ended := true, outcome := o }
theorem toldAll_len (o : Outcome) (ws : List Int) : (toldAll o ws).length = ws.length * 5 := by
  induction ws with
  | nil => rfl
  | cons x ws ih => simp [toldAll, toldCells] at ih ⊢; omega
theorem toldAll_snoc (o : Outcome) (ws : List Int) (c : Int) : toldAll o (ws ++ [c]) = toldAll o ws ++ toldCells o c := by simp [toldAll]
theorem cells_new (w : World) (cs : List Value) (t : TypeId) : ∀ j u, cs[j]? = some u → (w.alloc (.cells cs.toArray t)).cell? ((⟨w.heap.size, 0, none⟩ : Addr).add j) = some u := by
  intro j u h
  have e : (⟨w.heap.size, 0, none⟩ : Addr).add j = ⟨w.heap.size, j, none⟩ := by simp only [Addr.add]; split <;> simp_all
  rw [e, cell_of_row _ _ j _ _ _ (heap_alloc_new w _)]
  simpa using h

theorem uponSkip {P : Program} {o : Oper} {a : Act} {Q : Exit → Act → World → Prop} {KK : Act → World → Prop} {w' : World} (h : KK (a.put o.dst undef) w') : o.upon P a KK Q (.ok .skip w') := h
/-- what stands at the head of End's loop -/
def EndRel (w0 : World) (L : List Asn) (q b : Nat) (v : Value) (r : Rec) (o : Outcome) (out i : Value) (w : World) : Prop :=
  ∃ (k : Nat) (ad : Option Addr) (c : Nat), k ≤ r.waiters.length ∧ i = int k ∧ out = .slice ad k c ∧
    St w0 w (rowA 137 5 (.slice ad k c) k (toldAll o (r.waiters.take k)) :: cells q (recCells v r) 132 :: rowA 3 1 v r.waiters.length (r.waiters.map int) ::
      cells b [int o.value, int o.fail.kind, int o.fail.code, int o.fail.run] 35 :: L)

theorem recEnd_bad (o : Outcome) (he : r.ended = false) (ho : o.right = false) (s : St w0 w (recA q r :: L)) :
    Calls Try.prog 48 #[ptr q, outV o] w fun e w' => e = .returned (.tuple #[.slice none 0 0, int 30]) ∧ Below w.heap.size w w' := by
  have hr := fun W => failRight_ok o W
  rw [ho] at hr
  obtain ⟨v, s1⟩ := s.recOpen
  have hc := s1.cell
  have hlt := s1.lt
  simp only [recCells, he] at hc
  unfold outV at hr ⊢
  have hb0 := belNew w (.cells #[int o.value, int o.fail.kind, int o.fail.code, int o.fail.run] 35)
  go_enter Try.func48, Try.ntmps48
  go_wp2_with (first | (go_at_call 72; refine (hr _).mono ?_; rintro e w' ⟨rfl, hb⟩))
  go_ret2
  exact ⟨rfl, hb0.trans (hb.mono (by simp))⟩
set_option maxRecDepth 100000 in
set_option maxHeartbeats 2000000 in
theorem recEnd_ok (o : Outcome) (he : r.ended = false) (ho : o.right = true) (hn : r.waiters.length * 40 ≤ 140737488355328) (s : St w0 w (recA q r :: L)) :
    Calls Try.prog 48 #[ptr q, outV o] w fun e w' => ∃ v, e = .returned (.tuple #[v, int 0]) ∧ St w0 w' (rowA 137 5 v r.waiters.length (toldAll o r.waiters) :: recA q (r.fin o) :: L) := by
  have hr := fun W => failRight_ok o W
  rw [ho] at hr
  obtain ⟨v, s1⟩ := s.recOpen
  obtain ⟨va, vc, rfl⟩ := s1.swap.rowShape
  have hc := s1.cell
  have hlt := s1.lt
  simp only [recCells, he] at hc
  unfold outV at hr ⊢
  have s2 := s1.allocCells [int o.value, int o.fail.kind, int o.fail.code, int o.fail.run] 35
  go_enter Try.func48, Try.ntmps48
  go_wp2_with (first | (go_at_call 72; refine (hr _).mono ?_; rintro e w' ⟨rfl, hb⟩; have s3 := s2.ext hb; clear hc; have hc := (s3.sort [1, 0] rfl).cell; simp only [recCells, he] at hc))
  go_loopw [6, 26] (fun out i wr => EndRel w0 L q w.heap.size (.slice va r.waiters.length vc) r o out i wr) (fun _ i _ => r.waiters.length - (intOf i).toNat)
  case atStart => exact ⟨0, none, 0, Nat.zero_le _, rfl, rfl, (s3.sort [1, 2, 0] rfl).rowNil⟩
  case round =>
    obtain ⟨k, ad, c, hk, rfl, rfl, hS⟩ := hrel
    clear hc s1 s2 s3 s hb hlt
    by_cases hkn : k < r.waiters.length
    · rcases (hS.sort [2, 0, 1] rfl).rowOpen with ⟨hv, hv2, _⟩ | ⟨g, cap, sp, hv, h1, h2, h3, h4, hS2⟩
      · omega
      · cases hv
        have hgk : wr.cell? ⟨g, k, none⟩ = some (int r.waiters[k]) := by rw [hS2.cell, List.getElem?_append_left (by simpa using hkn)]; simp [hkn]
        have hbx := (hS.sort [3, 0, 1, 2] rfl).cell
        have hts : r.waiters.take (k + 1) = r.waiters.take k ++ [r.waiters[k]] := by simp
        have HT : Hid (toldAll o (r.waiters.take (k + 1)) = toldAll o (r.waiters.take k) ++ toldCells o r.waiters[k]) := by rw [hts]; exact toldAll_snoc _ _ _
        clear hts
        generalize r.waiters[k] = x at hgk HT
        have hl1 := hS2.lt
        have hl2 := (hS.sort [3, 0, 1, 2] rfl).lt
        clear hS2
        go_wp2_with (first
          | (at_builtin; refine wpList_push (size := 5) rfl _ _ 49 rfl _ _ 40 Try.underlying49 (by rfl) rfl rfl rfl rfl (by decide) (hS.ext (belNew wr _)) rfl _ _ (toldCells o x) rfl rfl (cells_new _ _ _) (by intro u hu; simp [toldCells] at hu; rcases hu with rfl | rfl | rfl | rfl | rfl <;> rfl) (by omega) (by decide) ?_
             intro ad' c' w9 hS9))
        go_roundw
        case rel => exact ⟨k + 1, ad', c', by omega, by go_num, rfl, by rw [HT.out]; exact hS9⟩
        case measure => simp [intOf]; omega
    · obtain rfl : k = r.waiters.length := by omega
      go_wp2_with fail
      rw [List.take_length] at hS
      have s7 := hS.sort [1, 0, 2, 3] rfl
      have hbx := (hS.sort [3, 0, 1, 2] rfl).cell
      have hc := s7.cell
      have hf := s7.free
      have hne : w.heap.size ≠ q := ((hS.sort [3, 1, 0, 2] rfl)).ne
      simp only [recCells] at hc
      clear hS hr
      go_region
      go_wp2
      go_ret2
      refine ⟨_, rfl, ?_⟩
      have s8 := ((((((s7.setCell 5 (.slice none 0 0)).setCell 8 (.bool true)).setCell 9 (int o.value)).setCell 10 (int o.fail.kind)).setCell 11 (int o.fail.code)).setCell 12 (int o.fail.run)).drew
      have s9 := (s8.sort [2, 3, 0, 1] rfl).drop.drop
      exact (St.recShut (r := r.fin o) (v := .slice none 0 0) (St.swap (St.rowNil s9))).swap
end Ytfhfkfnffajciaa
end Go.Proofs
