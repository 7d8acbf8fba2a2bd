/- The keys of a map of ints, sorted: slices.Sorted(maps.Keys(m)); tables: Progress. -/
import Derived.Test.YtfhfkfnffajciaaTab8
import Derived.Test.YtfhfkfnffajciaaShelf
import Derived.Maps.Own
import Derived.Lib.SlKeysI
namespace Go.Proofs
open Go.RowKit Go.Proofs.Ytfhfkfnffajciaa Go.Maps Go.Sort Go.Shelf Go.WideElems Go.MapKept

namespace Ytfhfkfnffajciaa
set_option linter.unusedSectionVars false
variable {w0 w : World} {L : List Asn} {p q : Nat} {t : Tab} {r : Rec} {n : Int}

/-- whatever stands there, it reads -/
def anyR : Value → Option (DataW Unit × List MemPlace) := fun _ => some (.nil, [])
theorem foldr_insert_perm (l : List (Lit × DataW Unit)) : (l.foldr DataW.insert []).Perm l := by
  induction l with
  | nil => exact .refl _
  | cons x l ih => exact (Go.WideShapes.insert_perm x _).trans (ih.cons x)
theorem St.readsMap {V : Type} {venc : V → Value} {b : Nat} {m : List (Int × V)} (s : St w0 w (mapA (Value.int .i64) venc b m :: L)) (hk : ∀ k ∈ akeys m, (Lit.int .i64 k).wf = true) (hsz : m.length ≤ maxLen) :
    ∃ D : DataW Unit, w.ownsMap Try.prog 3 anyR b m.length D ∧ (intKeys D).Perm (akeys m) ∧ Maps.size D = m.length := by
  obtain ⟨es, clock, s1, rfl, h1, h2, h3⟩ := s.mapOpen
  have hkey : ∀ x ∈ es, keyOf Try.prog 3 (Value.int .i64 x.1) = some (.int .i64 x.1) := fun x hx =>
    keyOf_int_mk Try.underlying3 (hk x.1 (by simp only [akeys, List.map_map]; exact List.mem_map.2 ⟨x, hx, rfl⟩))
  have hrd : ∀ x ∈ es, WideElems.rd Try.prog 3 anyR (ment (Value.int .i64) venc x) = some (.int .i64 x.1, .nil) := fun x hx => by
    simp [WideElems.rd, ment, hkey x hx, anyR]
  have hrg : ((es.map (ment (Value.int .i64) venc)).map (WideElems.rg Try.prog 3 anyR)) = es.map fun x => ((.int .i64 x.1, .nil) : Lit × DataW Unit) := by
    rw [List.map_map]
    refine List.map_congr_left fun x hx => ?_
    simp [WideElems.rg, hrd x hx]
  have hp := foldr_insert_perm (es.map fun x => ((.int .i64 x.1, .nil) : Lit × DataW Unit))
  refine ⟨.map ((es.map fun x => ((.int .i64 x.1, .nil) : Lit × DataW Unit)).foldr DataW.insert []), ⟨_, _, s1.obj_at.1, ⟨by simpa using hsz, ⟨?_, ?_, ?_⟩, ?_⟩, by simp, by rw [← hrg]⟩, ?_, ?_⟩
  · intro x hx
    simp only [List.mem_map] at hx
    obtain ⟨y, hy, rfl⟩ := hx
    exact h3 y hy
  · have : (es.map (ment (Value.int .i64) venc)).toArray.toList.map (·.born) = es.map (·.2.2) := by simp [ment, Function.comp_def]
    rw [this]
    exact h2.imp fun h => Nat.ne_of_lt h
  · have : (es.map (ment (Value.int .i64) venc)).toArray.toList.map (·.key) = (akeys (es.map fun x => (x.1, x.2.1))).map (Value.int .i64) := by simp [ment, akeys, Function.comp_def]
    rw [this]
    exact (List.pairwise_map.2 (h1.imp fun h e => h (by simpa using e)))
  · intro x hx
    simp only [List.mem_map] at hx
    obtain ⟨y, hy, rfl⟩ := hx
    exact ⟨_, hrd y hy⟩
  · have h4 := hp.map (fun p => Go.intOf p.1)
    have e : (es.map fun x => ((.int .i64 x.1, .nil) : Lit × DataW Unit)).map (fun p => Go.intOf p.1) = akeys (es.map fun x => (x.1, x.2.1)) := by simp [akeys, Function.comp_def, Go.intOf]
    rw [e] at h4
    exact h4
  · have h4 := hp.length_eq
    simp only [List.length_map] at h4 ⊢
    exact h4
/-- slices.Sort's two contracts, at the fence that asks nothing -/
theorem sortsI (m : Nat) : AnyZI.SortsIn Try.prog Try.sortedI_ren Fence.wide m :=
  ⟨fun blk off cap ss W hH hblk hsz => callsIn_wide.2 (Try.slices_Sort_int blk off cap ss W hH hblk hsz), fun p cap W => callsIn_wide.2 (Try.slices_Sort_int_none p cap W)⟩
set_option maxRecDepth 100000 in
set_option maxHeartbeats 2000000 in
theorem tabProgress_ok (hk : ∀ k ∈ akeys t.runs, (Lit.int .i64 k).wf = true) (hsz : t.runs.length * 8 ≤ 140737488355328) (s : St w0 w (tabA p t :: L)) :
    Calls Try.prog 17 #[ptr p] w fun e w' => ∃ v, e = .returned v ∧ Below w.heap.size w w' ∧
      St w0 w' (rowA 3 1 v t.runs.length (((akeys t.runs).mergeSort leI).map int) :: tabA p t :: L) := by
  refine (callsIn_wide (n := 6)).1 ?_
  obtain ⟨rb, cb, gb, s1⟩ := s.tabOpen
  have hmax : t.runs.length ≤ maxLen := by unfold maxLen; omega
  obtain ⟨D, hown, hperm, hD⟩ := (s1.sort [1, 0] rfl).readsMap hk hmax
  have hc := s1.cell
  have hbl := hown.lt
  have hseq : SeqGives Fence.wide 2 Try.prog 74 #[.pointer (some ⟨w.heap.size, 0, none⟩)] encZ (fun ss => ss.Perm (intKeys D)) (Maps.size D) (w.alloc (.cells #[.map (some rb)] 83)) :=
    AnyZI.keys_gives (ρ := Try.keysI52_ren) { Try.keysI52 with } Fence.wide _ trivial rfl (by omega) w.heap.size rb t.runs.length D _ (by simp) (by simp) (by
      obtain ⟨es, clock, hb, Ft, hs, hD⟩ := hown
      exact ⟨es, clock, (Below.heap_alloc _ _ rb hbl).trans hb, Ft, hs, hD⟩)
  have cK : ∀ mb W, CallsIn Fence.wide 5 Try.prog 52 #[.map mb] W fun e w' => e = .returned (.func (.func 74) #[] #[.pointer (some ⟨W.heap.size, 0, none⟩)]) ∧ w' = W.alloc (.cells #[.map mb] 83) :=
    fun mb W => AnyZI.keys_in Try.keysI52 Fence.wide 5 trivial rfl mb W
  have cS := AnyZI.sorted_in Try.sortedI Fence.wide 5 trivial trivial trivial trivial rfl (by omega) (sortsI _) (enters_of Try.func65 (by kernel_rfl) rfl) 74 #[.pointer (some ⟨w.heap.size, 0, none⟩)] trivial
    (enters_of Try.func74 (by kernel_rfl) rfl) _ _ (by rw [hD]; exact hmax) (by rw [hD]; exact hsz) _ hseq
  change CallsIn _ _ Try.prog 51 _ _ _ at cS
  have hfK : Fence.wide.fn 52 := trivial
  have hfS : Fence.wide.fn 51 := trivial
  have HP : Hid (∀ ss : List Int, ss.Perm (intKeys D) → ss.mergeSort leI = (akeys t.runs).mergeSort leI ∧ ss.length = t.runs.length) := fun ss hs => ⟨mergeSort_of_perm_i (hs.trans hperm), by rw [hs.length_eq, hperm.length_eq]; simp [akeys]⟩
  clear hk hsz hmax hown hD hperm hseq hbl
  refine callsIn_of_wp Try.func17 rfl trivial ?_ rfl
  simp only [Try.ntmps17, List.size_toArray, List.length_cons, List.length_nil, Nat.reduceAdd, Nat.reduceSub, Array.replicate_succ, Array.replicate_zero, List.push_toArray, List.append_toArray, List.nil_append, List.cons_append]
  gi_wp2_with (first
    | (gi_at_call 52; refine (cK _ _).mono ?_; rintro e w' ⟨rfl, rfl⟩)
    | (gi_at_call 51; refine cS.mono ?_; rintro e w' ⟨v, ss, rfl, hS, hrow, hnil, hb⟩))
  go_ret
  obtain ⟨h1, h2⟩ := HP.out ss hS
  rw [h1, h2] at hrow
  have hb0 := belNew w (.cells #[.map (some rb)] 83)
  exact ⟨v, rfl, hb0.trans (hb.mono (by simp)), (s.ext hb0).newRow hb hrow⟩
end Ytfhfkfnffajciaa
end Go.Proofs
