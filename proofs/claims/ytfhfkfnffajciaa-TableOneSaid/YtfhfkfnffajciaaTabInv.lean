/- Tables: what holds between two calls, and that each call keeps it. No program in sight. -/
import Derived.Test.YtfhfkfnffajciaaTab8
import Derived.Test.YtfhfkfnffajciaaTab2
namespace Go.Proofs
open Go.RowKit Go.Proofs.Ytfhfkfnffajciaa

namespace Ytfhfkfnffajciaa
set_option linter.unusedSectionVars false
variable {t : Tab} {r : Rec} {n : Int} {N : Nat}

structure TInv (t : Tab) (N : Nat) : Prop where
  fl : 1 ≤ t.flight ∧ t.flight ≤ 4096
  bg : 0 ≤ t.begun ∧ t.begun ≤ N
  asc : (akeys t.runs).Pairwise (· < ·)
  rng : ∀ n ∈ akeys t.runs, 1 ≤ n ∧ n ≤ t.begun
  rcs : ∀ n x, aget t.runs n = some x → x.2.ended = false ∧ x.2.run.run = n ∧ x.2.waiters.length ≤ N + 1 ∧ (x.2.cancelled = true → x.2.waiters = [] ∧ x.2.kept = false) ∧ 0 ≤ x.2.run.gen ∧ x.2.run.gen ≤ t.gen x.2.run.key
  uniq : ∀ n m x y, aget t.runs n = some x → aget t.runs m = some y → x.2.run.key = y.2.run.key → x.2.run.gen = y.2.run.gen → n = m
  cur1 : ∀ n x, aget t.runs n = some x → x.2.run.gen = t.gen x.2.run.key → aget t.cur x.2.run.key = some n
  cur2 : ∀ k n, aget t.cur k = some n → ∃ x, aget t.runs n = some x ∧ x.2.run.key = k ∧ x.2.run.gen = t.gen k
  gens : ∀ k, 0 ≤ t.gen k ∧ t.gen k ≤ N
  len : (t.runs.length : Int) ≤ t.flight
structure TStep (t t' : Tab) : Prop where
  up : ∀ k, t.gen k ≤ t'.gen k ∧ t'.gen k ≤ t.gen k + 1
  fl : t'.flight = t.flight
theorem TStep.refl (t : Tab) : TStep t t := ⟨fun k => ⟨Int.le_refl _, by omega⟩, rfl⟩
theorem TInv.mono {M : Nat} (h : TInv t N) (hM : N ≤ M) : TInv t M :=
  ⟨h.fl, ⟨h.bg.1, by have := h.bg.2; omega⟩, h.asc, h.rng, fun n x hx => by obtain ⟨a, b, c, d, e, f⟩ := h.rcs n x hx; exact ⟨a, b, by omega, d, e, f⟩, h.uniq, h.cur1, h.cur2, fun k => ⟨(h.gens k).1, by have := (h.gens k).2; omega⟩, h.len⟩
theorem TInv.new (fl : Int) (h1 : 1 ≤ fl) (h2 : fl ≤ 4096) : TInv (Tab.new fl) 0 :=
  ⟨⟨h1, h2⟩, ⟨Int.le_refl _, Int.le_refl _⟩, List.Pairwise.nil, (fun n h => by cases h), (fun n x h => by cases h), (fun n m x y h => by cases h), (fun n x h => by cases h), (fun k n h => by cases h), (fun k => ⟨Int.le_refl _, Int.le_refl _⟩), by simp [Tab.new]; omega⟩
theorem TInv.nodup (h : TInv t N) : (akeys t.runs).Nodup := h.asc.imp fun h e => by omega
theorem TInv.recOk (h : TInv t N) (hN : ((N : Int) + 2) * 40 ≤ 140737488355328) : ∀ x, aget t.runs n = some x → RecOk n x.2 := fun x hx => by
  obtain ⟨a, b, c, _⟩ := h.rcs n x hx
  exact ⟨a, b, by omega⟩
theorem TInv.genOk (h : TInv t N) (hN : ((N : Int) + 2) * 40 ≤ 140737488355328) : GenOk t := fun k => ⟨(h.gens k).1, by have := (h.gens k).2; simp only [Tab.gen] at this; omega⟩

/-- a record is changed, but not what its run is -/
theorem TInv.amod {f : Rec → Rec} (h : TInv t N) (hf : ∀ x, aget t.runs n = some x → (f x.2).ended = false ∧ (f x.2).run = x.2.run ∧ (f x.2).waiters.length ≤ N + 2 ∧ ((f x.2).cancelled = true → (f x.2).waiters = [] ∧ (f x.2).kept = false)) :
    TInv { t with runs := Go.Proofs.Ytfhfkfnffajciaa.amod t.runs n fun x => (x.1, f x.2) } (N + 1) := by
  have key : ∀ m y, aget (Go.Proofs.Ytfhfkfnffajciaa.amod t.runs n fun x => (x.1, f x.2)) m = some y → ∃ x, aget t.runs m = some x ∧ y.2.run = x.2.run ∧ y.2.ended = false ∧ y.2.waiters.length ≤ N + 2 ∧ (y.2.cancelled = true → y.2.waiters = [] ∧ y.2.kept = false) := by
    intro m y hy
    rw [aget_amod] at hy
    split at hy
    · rename_i e; subst e
      obtain ⟨x, hx, rfl⟩ := Option.map_eq_some_iff.1 hy
      obtain ⟨a, b, c, d⟩ := hf x hx
      exact ⟨x, hx, b, a, c, d⟩
    · obtain ⟨a, b, c, d, _⟩ := h.rcs m y hy
      exact ⟨y, hy, rfl, a, by omega, d⟩
  have keyb : ∀ m x, aget t.runs m = some x → ∃ y, aget (Go.Proofs.Ytfhfkfnffajciaa.amod t.runs n fun x => (x.1, f x.2)) m = some y ∧ y.2.run = x.2.run := by
    intro m x hx
    rw [aget_amod]
    split
    · rename_i e; subst e
      exact ⟨(x.1, f x.2), by rw [hx]; rfl, (hf x hx).2.1⟩
    · exact ⟨x, hx, rfl⟩
  refine ⟨h.fl, ⟨h.bg.1, by have := h.bg.2; simp only; omega⟩, by simp only [akeys_amod]; exact h.asc, by simp only [akeys_amod]; exact h.rng, ?_, ?_, ?_, ?_, ?_, by simp only [length_amod]; exact h.len⟩
  · intro m y hy
    obtain ⟨x, hx, e1, e2, e3, e4⟩ := key m y hy
    obtain ⟨_, b, _, _, e, f'⟩ := h.rcs m x hx
    exact ⟨e2, by rw [e1]; exact b, by omega, e4, by rw [e1]; exact e, by rw [e1]; exact f'⟩
  · intro m m' y y' hy hy' k1 k2
    obtain ⟨x, hx, e1, _⟩ := key m y hy
    obtain ⟨x', hx', e1', _⟩ := key m' y' hy'
    rw [e1, e1'] at k1 k2
    exact h.uniq m m' x x' hx hx' k1 k2
  · intro m y hy k1
    obtain ⟨x, hx, e1, _⟩ := key m y hy
    rw [e1] at k1 ⊢
    exact h.cur1 m x hx k1
  · intro k m hk
    obtain ⟨x, hx, e1, e2⟩ := h.cur2 k m hk
    obtain ⟨y, hy, e⟩ := keyb m x hx
    exact ⟨y, hy, by rw [e]; exact e1, by rw [e]; exact e2⟩
  · intro k
    have := h.gens k
    exact ⟨this.1, by simp only [Tab.gen] at this ⊢; omega⟩
theorem gen_put (t : Tab) (k k' : Key) (v : Int) (rs : List (Int × Nat × Rec)) (cu : List (Key × Int)) : ({ t with runs := rs, cur := cu, gens := aput t.gens k v } : Tab).gen k' = if k = k' then v else t.gen k' := by
  simp only [Tab.gen, aget_aput]; split <;> rfl
/-- a key's generation goes on -/
theorem TInv.on (h : TInv t N) (k : Key) : TInv (t.forget k) (N + 1) := by
  have hg : ∀ k', (t.forget k).gen k' = if k = k' then t.gen k + 1 else t.gen k' := fun k' => gen_put t k k' _ _ _
  refine ⟨h.fl, ⟨h.bg.1, by have := h.bg.2; simp only [Tab.forget]; omega⟩, h.asc, h.rng, ?_, h.uniq, ?_, ?_, ?_, h.len⟩
  · intro m x hx
    obtain ⟨a, b, c, d, e, f⟩ := h.rcs m x hx
    refine ⟨a, b, by omega, d, e, ?_⟩
    rw [hg]; split
    · rename_i e2; rw [e2]; omega
    · exact f
  · intro m x hx hgen
    obtain ⟨a, b, c, d, e, f⟩ := h.rcs m x hx
    rw [hg] at hgen
    split at hgen
    · rename_i e2; rw [e2] at hgen; omega
    · rename_i e2
      show aget (adel t.cur k) _ = _
      rw [aget_adel, if_neg e2]
      exact h.cur1 m x hx hgen
  · intro k' m hm
    have hm' : aget (adel t.cur k) k' = some m := hm
    rw [aget_adel] at hm'
    split at hm'
    · cases hm'
    · rename_i e2
      obtain ⟨x, hx, e1, e3⟩ := h.cur2 k' m hm'
      exact ⟨x, hx, e1, by rw [hg, if_neg e2]; exact e3⟩
  · intro k'
    have := h.gens k'
    have := h.gens k
    rw [hg]; split <;> omega
theorem TStep.on (t : Tab) (k : Key) : TStep t (t.forget k) := ⟨fun k' => by
  have hg : (t.forget k).gen k' = if k = k' then t.gen k + 1 else t.gen k' := gen_put t k k' _ _ _
  rw [hg]; split
  · rename_i e; rw [e]; omega
  · omega, rfl⟩
theorem Tab.left_eq (t : Tab) (n : Int) (c : Bool) : t.left n c = if c && t.isCur n then t.forget (t.run n).key else t := rfl
theorem TInv.left (h : TInv t N) (n : Int) (c : Bool) : TInv (t.left n c) (N + 1) ∧ TStep t (t.left n c) := by
  rw [Tab.left_eq]; split
  · exact ⟨h.on _, TStep.on t _⟩
  · exact ⟨h.mono (by omega), TStep.refl t⟩
theorem TStep.amod (t : Tab) (rs : List (Int × Nat × Rec)) : TStep t { t with runs := rs } := ⟨fun k => ⟨Int.le_refl _, by simp [Tab.gen]; omega⟩, rfl⟩
theorem TStep.same {t t' t'' : Tab} (rs : List (Int × Nat × Rec)) (e : t' = { t with runs := rs }) (h : TStep t' t'') : TStep t t'' := by subst e; exact ⟨h.up, h.fl⟩
theorem TStep.trans_same {t t' t'' : Tab} (h : TStep t t') (e : ∀ k, t''.gen k = t'.gen k) (e2 : t''.flight = t'.flight) : TStep t t'' := ⟨fun k => by rw [e]; exact h.up k, e2.trans h.fl⟩

theorem join_wait (r : Rec) (c : Int) : (r.join c).1.ended = r.ended ∧ (r.join c).1.run = r.run ∧ (r.join c).1.waiters.length ≤ r.waiters.length + 1 ∧ ((r.join c).1.cancelled = true → (r.join c).1 = r ∧ (r.join c).2 ≠ 0) := by
  unfold Rec.join
  split
  · exact ⟨rfl, rfl, by simp, fun _ => ⟨rfl, by simp⟩⟩
  · split
    · exact ⟨rfl, rfl, by simp, fun _ => ⟨rfl, by simp⟩⟩
    · rename_i h
      split
      · exact ⟨rfl, rfl, by simp, fun _ => ⟨rfl, by simp⟩⟩
      · exact ⟨rfl, rfl, by simp, fun h' => absurd h' h⟩
theorem join_cancelled (r : Rec) (c : Int) (h : r.cancelled = true) : (r.join c).2 ≠ 0 := by
  unfold Rec.join; simp only [h, if_true]; split <;> simp
theorem TInv.join (h : TInv t N) (n c : Int) : TInv (t.join n c).1 (N + 1) ∧ TStep t (t.join n c).1 ∧ ((t.join n c).2 = 0 → t.cancelled n = false) := by
  unfold Tab.join Tab.cancelled
  cases hx : aget t.runs n with
  | none => exact ⟨h.mono (by omega), TStep.refl t, fun e => by cases e⟩
  | some x =>
    refine ⟨h.amod (f := fun y => (y.join c).1) fun y hy => ?_, TStep.amod t _, fun e => ?_⟩
    · obtain ⟨a, b, c', d, _⟩ := h.rcs n y hy
      obtain ⟨j1, j2, j3, j4⟩ := join_wait y.2 c
      exact ⟨j1.trans a, j2, by omega, fun hc => by have e := (j4 hc).1; rw [e] at hc ⊢; exact d hc⟩
    · cases hc : x.2.cancelled
      · exact hc
      · exact absurd e (join_cancelled x.2 c hc)
theorem look_keeps (r : Rec) : r.look.1.ended = r.ended ∧ r.look.1.run = r.run ∧ r.look.1.waiters = r.waiters ∧ ((r.cancelled = true → r.waiters = [] ∧ r.kept = false) → r.look.1.cancelled = true → r.look.1.waiters = [] ∧ r.look.1.kept = false) := by
  unfold Rec.look
  split
  · rename_i hi
    refine ⟨rfl, rfl, rfl, fun _ _ => ?_⟩
    obtain ⟨h1, h2⟩ := hi
    simp only [Rec.interest] at h1
    cases hk : r.kept
    · exact ⟨List.eq_nil_of_length_eq_zero (by simp only; omega), rfl⟩
    · rw [hk] at h1; simp at h1
  · exact ⟨rfl, rfl, rfl, fun h => h⟩
theorem leave_keeps (r : Rec) (c : Int) (hr : r.cancelled = true → r.waiters = [] ∧ r.kept = false) :
    (r.leave c).1.ended = r.ended ∧ (r.leave c).1.run = r.run ∧ (r.leave c).1.waiters.length ≤ r.waiters.length ∧ ((r.leave c).1.cancelled = true → (r.leave c).1.waiters = [] ∧ (r.leave c).1.kept = false) := by
  unfold Rec.leave
  split
  · obtain ⟨a, b, c', d⟩ := look_keeps { r with waiters := r.waiters.erase c }
    exact ⟨a, b, by rw [c']; exact List.length_erase_le, d (fun h => ⟨by rw [(hr h).1]; rfl, (hr h).2⟩)⟩
  · exact ⟨rfl, rfl, Nat.le_refl _, hr⟩
theorem release_keeps (r : Rec) (hr : r.cancelled = true → r.waiters = [] ∧ r.kept = false) :
    r.release.1.ended = r.ended ∧ r.release.1.run = r.run ∧ r.release.1.waiters.length ≤ r.waiters.length ∧ (r.release.1.cancelled = true → r.release.1.waiters = [] ∧ r.release.1.kept = false) := by
  unfold Rec.release
  split
  · obtain ⟨a, b, c', d⟩ := look_keeps { r with kept := false }
    exact ⟨a, b, by rw [c']; exact Nat.le_refl _, d (fun h => ⟨(hr h).1, rfl⟩)⟩
  · exact ⟨rfl, rfl, Nat.le_refl _, hr⟩
theorem TInv.leave (h : TInv t N) (n c : Int) : TInv (t.leave n c).1 (N + 2) ∧ TStep t (t.leave n c).1 := by
  unfold Tab.leave
  cases hx : aget t.runs n with
  | none => exact ⟨h.mono (by omega), TStep.refl t⟩
  | some x =>
    simp only
    split
    · have h1 := h.amod (n := n) (f := fun y => (y.leave c).1) fun y hy => by
        obtain ⟨a, b, c', d, _⟩ := h.rcs n y hy
        obtain ⟨j1, j2, j3, j4⟩ := leave_keeps y.2 c d
        exact ⟨j1.trans a, j2, by omega, j4⟩
      obtain ⟨h2, h3⟩ := h1.left n (x.2.leave c).2.1
      exact ⟨h2, TStep.same _ rfl h3⟩
    · exact ⟨h.mono (by omega), TStep.refl t⟩
theorem TInv.release (h : TInv t N) (n : Int) : TInv (t.release n).1 (N + 2) ∧ TStep t (t.release n).1 := by
  unfold Tab.release
  cases hx : aget t.runs n with
  | none => exact ⟨h.mono (by omega), TStep.refl t⟩
  | some x =>
    have h1 := h.amod (n := n) (f := fun y => y.release.1) fun y hy => by
      obtain ⟨a, b, c', d, _⟩ := h.rcs n y hy
      obtain ⟨j1, j2, j3, j4⟩ := release_keeps y.2 d
      exact ⟨j1.trans a, j2, by omega, j4⟩
    obtain ⟨h2, h3⟩ := h1.left n x.2.release.2
    exact ⟨h2, TStep.same _ rfl h3⟩
theorem isCur_iff (h : TInv t N) {x : Nat × Rec} (hx : aget t.runs n = some x) : t.isCur n = true ↔ aget t.cur x.2.run.key = some n := by
  simp only [Tab.isCur, hx, decide_eq_true_eq]
  have hn := (h.rng n (mem_akeys.2 ⟨x, hx⟩)).1
  cases hc : aget t.cur x.2.run.key with
  | none => simp; omega
  | some m => simp
theorem adel_sub {K V : Type} [DecidableEq K] (m : List (K × V)) (k : K) : (akeys (adel m k)).Sublist (akeys m) := List.Sublist.map _ List.filter_sublist
theorem TInv.fin (h : TInv t N) {x : Nat × Rec} (hx : aget t.runs n = some x) : TInv (t.fin n) (N + 1) ∧ TStep t (t.fin n) := by
  have hrun : (t.run n).key = x.2.run.key := by simp [Tab.run, hx]
  have hic := isCur_iff h hx
  have hgen : ∀ k, (t.fin n).gen k = t.gen k := fun k => rfl
  have hrs : ∀ m y, aget (adel t.runs n) m = some y → aget t.runs m = some y ∧ n ≠ m := fun m y hy => by
    rw [aget_adel] at hy
    split at hy
    · cases hy
    · exact ⟨hy, by assumption⟩
  have hcu : ∀ k m, aget (t.fin n).cur k = some m ↔ aget t.cur k = some m ∧ m ≠ n := by
    intro k m
    cases hc : t.isCur n
    · have hfc : (t.fin n).cur = t.cur := by simp [Tab.fin, hc]
      rw [hfc]
      refine ⟨fun hk => ⟨hk, fun e => ?_⟩, fun hk => hk.1⟩
      subst e
      obtain ⟨y, hy, e1, _⟩ := h.cur2 k m hk
      rw [hx] at hy; cases hy
      rw [← e1] at hk
      rw [hic.2 hk] at hc; cases hc
    · have hfc : (t.fin n).cur = adel t.cur x.2.run.key := by simp [Tab.fin, hc, hrun]
      rw [hfc, aget_adel]
      have hcx := hic.1 hc
      split
      · rename_i e; subst e
        rw [hcx]
        simp
        intro e; exact e.symm
      · rename_i e
        refine ⟨fun hk => ⟨hk, fun e' => ?_⟩, fun hk => hk.1⟩
        subst e'
        obtain ⟨y, hy, e1, _⟩ := h.cur2 k m hk
        rw [hx] at hy; cases hy
        exact e e1
  refine ⟨⟨h.fl, ⟨h.bg.1, by have := h.bg.2; simp only [Tab.fin]; omega⟩, h.asc.sublist (adel_sub _ _), fun m hm => h.rng m ((adel_sub _ _).subset hm), ?_, ?_, ?_, ?_, ?_, ?_⟩, ⟨fun k => ⟨Int.le_refl _, by rw [hgen]; omega⟩, rfl⟩⟩
  · intro m y hy
    obtain ⟨a, b, c, d, e, f⟩ := h.rcs m y (hrs m y hy).1
    exact ⟨a, b, by omega, d, e, f⟩
  · intro m m' y y' hy hy' k1 k2
    exact h.uniq m m' y y' (hrs m y hy).1 (hrs m' y' hy').1 k1 k2
  · intro m y hy k1
    obtain ⟨h1, h2⟩ := hrs m y hy
    exact (hcu _ _).2 ⟨h.cur1 m y h1 k1, fun e => h2 e.symm⟩
  · intro k m hk
    obtain ⟨h1, h2⟩ := (hcu _ _).1 hk
    obtain ⟨y, hy, e1, e2⟩ := h.cur2 k m h1
    refine ⟨y, ?_, e1, e2⟩
    show aget (adel t.runs n) m = some y
    rw [aget_adel, if_neg (fun e => h2 e.symm)]; exact hy
  · intro k; have := h.gens k; rw [hgen]; omega
  · have : (adel t.runs n).length ≤ t.runs.length := List.length_filter_le _ _
    have := h.len
    simp only [Tab.fin]; omega
def Tab.begin (t : Tab) (k : Key) (c : Int) (rf : Bool) (q : Nat) : Tab :=
  { t with begun := t.begun + 1, runs := aput t.runs (t.begun + 1) (q, Rec.new ⟨t.begun + 1, k, (aget t.gens k).getD 0, rf⟩ c), cur := aput t.cur k (t.begun + 1) }
theorem TInv.begin (h : TInv t N) (k : Key) (c : Int) (rf : Bool) (q : Nat) (h1 : aget t.cur k = none) (h2 : (t.runs.length : Int) < t.flight) : TInv (t.begin k c rf q) (N + 1) ∧ TStep t (t.begin k c rf q) := by
  have hfresh : t.begun + 1 ∉ akeys t.runs := fun hm => by have := (h.rng _ hm).2; omega
  have hgen : ∀ k', (t.begin k c rf q).gen k' = t.gen k' := fun k' => rfl
  have hrs : ∀ m y, aget (t.begin k c rf q).runs m = some y → (m = t.begun + 1 ∧ y = (q, Rec.new ⟨t.begun + 1, k, t.gen k, rf⟩ c)) ∨ (m ≠ t.begun + 1 ∧ aget t.runs m = some y) := by
    intro m y hy
    have hy' : aget (aput t.runs (t.begun + 1) (q, Rec.new ⟨t.begun + 1, k, (aget t.gens k).getD 0, rf⟩ c)) m = some y := hy
    rw [aget_aput] at hy'
    split at hy'
    · rename_i e; exact .inl ⟨e.symm, by cases hy'; rfl⟩
    · rename_i e; exact .inr ⟨fun e' => e e'.symm, hy'⟩
  have hkeys : akeys (t.begin k c rf q).runs = akeys t.runs ++ [t.begun + 1] := by
    show akeys (aput _ _ _) = _
    rw [aput_not_mem hfresh]; simp [akeys]
  have hg0 : ∀ m x, aget t.runs m = some x → x.2.run.key = k → x.2.run.gen ≠ t.gen k := fun m x hx hk hg => by
    have := h.cur1 m x hx (by rw [hk]; exact hg)
    rw [hk, h1] at this; cases this
  refine ⟨⟨h.fl, ⟨by have := h.bg.1; simp only [Tab.begin]; omega, by have := h.bg.2; simp only [Tab.begin]; omega⟩, ?_, ?_, ?_, ?_, ?_, ?_, ?_, ?_⟩, ⟨fun k => ⟨Int.le_refl _, by rw [hgen]; omega⟩, rfl⟩⟩
  · rw [hkeys]
    refine List.pairwise_append.2 ⟨h.asc, by simp, fun a ha b hb => ?_⟩
    simp only [List.mem_singleton] at hb; subst hb
    have := (h.rng a ha).2; omega
  · intro m hm
    rw [hkeys] at hm
    show 1 ≤ m ∧ m ≤ t.begun + 1
    rcases List.mem_append.1 hm with hm | hm
    · have := h.rng m hm; omega
    · simp only [List.mem_singleton] at hm; have := h.bg.1; omega
  · intro m y hy
    rcases hrs m y hy with ⟨rfl, rfl⟩ | ⟨_, hy⟩
    · refine ⟨rfl, rfl, ?_, (fun hc => by cases hc), (h.gens k).1, by rw [hgen]; exact Int.le_refl _⟩
      simp only [Rec.new]; split <;> simp
    · obtain ⟨a, b, c', d, e, f⟩ := h.rcs m y hy
      exact ⟨a, b, by omega, d, e, f⟩
  · intro m m' y y' hy hy' k1 k2
    rcases hrs m y hy with ⟨rfl, rfl⟩ | ⟨_, hy⟩ <;> rcases hrs m' y' hy' with ⟨rfl, rfl⟩ | ⟨_, hy'⟩
    · rfl
    · exact absurd k2.symm (hg0 m' y' hy' k1.symm)
    · exact absurd k2 (hg0 m y hy k1)
    · exact h.uniq m m' y y' hy hy' k1 k2
  · intro m y hy k1
    show aget (aput t.cur k (t.begun + 1)) _ = _
    rw [aget_aput]
    rcases hrs m y hy with ⟨rfl, rfl⟩ | ⟨_, hy⟩
    · exact if_pos rfl
    · rw [hgen] at k1
      rw [if_neg]
      · exact h.cur1 m y hy k1
      · intro e
        exact hg0 m y hy e.symm (by rw [e]; exact k1)
  · intro k' m hk
    have hk' : aget (aput t.cur k (t.begun + 1)) k' = some m := hk
    rw [aget_aput] at hk'
    split at hk'
    · rename_i e; subst e
      cases hk'
      refine ⟨(q, Rec.new ⟨t.begun + 1, k, (aget t.gens k).getD 0, rf⟩ c), ?_, rfl, rfl⟩
      show aget (aput _ _ _) _ = _
      rw [aget_aput, if_pos rfl]
    · obtain ⟨x, hx, e1, e2⟩ := h.cur2 k' m hk'
      refine ⟨x, ?_, e1, e2⟩
      show aget (aput _ _ _) _ = _
      rw [aget_aput, if_neg]
      · exact hx
      · intro e; exact hfresh (e ▸ mem_akeys.2 ⟨x, hx⟩)
  · intro k'; have := h.gens k'; rw [hgen]; omega
  · show ((aput t.runs _ _).length : Int) ≤ t.flight
    rw [aput_not_mem hfresh]; simp; omega
end Ytfhfkfnffajciaa
end Go.Proofs
