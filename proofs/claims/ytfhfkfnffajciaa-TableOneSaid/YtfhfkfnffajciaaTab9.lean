/- Tables: what each call does, in the words of the invariant. -/
import Derived.Test.YtfhfkfnffajciaaTabInv
import Derived.Test.YtfhfkfnffajciaaTab2b
import Derived.Test.YtfhfkfnffajciaaKeysI
namespace Go.Proofs
open Go.RowKit Go.Proofs.Ytfhfkfnffajciaa

namespace Ytfhfkfnffajciaa
variable {w0 w : World} {L : List Asn} {p : Nat} {t : Tab} {N : Nat}

def NOk (N : Nat) : Prop := ((N : Int) + 2) * 40 ≤ 140737488355328
theorem actBegin (k : Key) (c : Int) (rf : Bool) (hk : (k.name.size : Int) ≤ 9223372036854775807) (h : TInv t N) (hN : NOk N) (s : St w0 w (tabA p t :: L)) :
    Calls Try.prog 16 #[ptr p, .agg #[.int .u16 k.space, .string k.name], int c, .bool rf] w fun e w' =>
      ∃ (n er : Int) (t' : Tab), e = .returned (.tuple #[int n, int er]) ∧ (er = 0 → n = t.begun + 1) ∧ TInv t' (N + 2) ∧ TStep t t' ∧ St w0 w' (tabA p t' :: L) := by
  have same : ∀ (er : Int) (e : Ending) (w' : World), er ≠ 0 → e = .returned (.tuple #[int 0, int er]) ∧ Below w.heap.size w w' →
      ∃ (n er : Int) (t' : Tab), e = .returned (.tuple #[int n, int er]) ∧ (er = 0 → n = t.begun + 1) ∧ TInv t' (N + 2) ∧ TStep t t' ∧ St w0 w' (tabA p t' :: L) :=
    fun er e w' he ⟨h1, h2⟩ => ⟨0, er, t, h1, fun e0 => absurd e0 he, h.mono (by omega), TStep.refl t, s.ext h2⟩
  by_cases h1 : k.name.size ≤ 64
  · cases h2 : badCaller c rf
    · cases h3 : aget t.cur k with
      | none =>
        by_cases h4 : t.flight ≤ t.runs.length
        · exact (Begin_busy k c rf h1 h2 h3 h4 s).mono fun e w' hp => same 120 e w' (by decide) hp
        · have hg := h.genOk (N := N) hN k
          have hbg := h.bg
          have hN' : ((N : Int) + 2) * 40 ≤ 140737488355328 := hN
          have hfresh : t.begun + 1 ∉ akeys t.runs := fun hm => by have := (h.rng _ hm).2; omega
          cases rf
          · have hc : 1 ≤ c := by simpa [badCaller] using h2
            refine (Begin_ok k c h1 hc h3 (by omega) hbg.1 (by omega) hg.1 hfresh s).mono ?_
            rintro e w' ⟨q, rfl, s'⟩
            obtain ⟨h5, h6⟩ := h.begin k c false q h3 (by omega)
            exact ⟨_, 0, _, rfl, fun _ => rfl, h5.mono (by omega), h6, s'⟩
          · have hc : c = 0 := by simpa [badCaller] using h2
            subst hc
            refine (Begin_re k h1 h3 (by omega) hbg.1 (by omega) hg.1 hfresh s).mono ?_
            rintro e w' ⟨q, rfl, s'⟩
            obtain ⟨h5, h6⟩ := h.begin k 0 true q h3 (by omega)
            exact ⟨_, 0, _, rfl, fun _ => rfl, h5.mono (by omega), h6, s'⟩
      | some n => exact (Begin_cur k c rf h1 h2 (by rw [h3]; rfl) s).mono fun e w' hp => same 121 e w' (by decide) hp
    · exact (Begin_arg k c rf h1 h2 s).mono fun e w' hp => same 1 e w' (by decide) hp
  · exact (Begin_key k c rf (by omega) hk s).mono fun e w' hp => same 20 e w' (by decide) hp
theorem actJoin (n c : Int) (h : TInv t N) (hN : NOk N) (s : St w0 w (tabA p t :: L)) :
    Calls Try.prog 11 #[ptr p, int n, int c] w fun e w' =>
      ∃ (er : Int) (t' : Tab), e = .returned (int er) ∧ (er = 0 → t.cancelled n = false) ∧ TInv t' (N + 2) ∧ TStep t t' ∧ St w0 w' (tabA p t' :: L) := by
  obtain ⟨h1, h2, h3⟩ := h.join n c
  exact (tabJoin_ok n c (h.recOk hN) s).mono fun e w' ⟨a, b⟩ => ⟨_, _, a, h3, h1.mono (by omega), h2, b⟩
theorem actLeave (n c : Int) (h : TInv t N) (hN : NOk N) (s : St w0 w (tabA p t :: L)) :
    Calls Try.prog 12 #[ptr p, int n, int c] w fun e w' =>
      ∃ (a b : Bool) (er : Int) (t' : Tab), e = .returned (.tuple #[.agg #[.bool a, .bool b], int er]) ∧ TInv t' (N + 2) ∧ TStep t t' ∧ St w0 w' (tabA p t' :: L) := by
  obtain ⟨h1, h2⟩ := h.leave n c
  exact (tabLeave_ok n c (h.recOk hN) (h.genOk hN) s).mono fun e w' ⟨a, b⟩ => ⟨_, _, _, _, a, h1, h2, b⟩
theorem actRelease (n : Int) (h : TInv t N) (hN : NOk N) (s : St w0 w (tabA p t :: L)) :
    Calls Try.prog 13 #[ptr p, int n] w fun e w' =>
      ∃ (a b : Bool) (er : Int) (t' : Tab), e = .returned (.tuple #[.agg #[.bool a, .bool b], int er]) ∧ TInv t' (N + 2) ∧ TStep t t' ∧ St w0 w' (tabA p t' :: L) := by
  obtain ⟨h1, h2⟩ := h.release n
  exact (tabRelease_ok n (h.recOk hN) (h.genOk hN) s).mono fun e w' ⟨a, b⟩ => ⟨_, _, _, _, a, h1, h2, b⟩
theorem actForget (k : Key) (hk : (k.name.size : Int) ≤ 9223372036854775807) (h : TInv t N) (hN : NOk N) (s : St w0 w (tabA p t :: L)) :
    Calls Try.prog 14 #[ptr p, .agg #[.int .u16 k.space, .string k.name]] w fun e w' =>
      ∃ (a b er : Int) (t' : Tab), e = .returned (.tuple #[int a, int b, int er]) ∧ (k.name.size ≤ 64 → t'.gen k = t.gen k + 1) ∧ TInv t' (N + 2) ∧ TStep t t' ∧ St w0 w' (tabA p t' :: L) := by
  by_cases h1 : k.name.size ≤ 64
  · refine (tabForget_ok k h1 (h.genOk hN) s).mono fun e w' ⟨a, b⟩ => ⟨_, _, _, _, a, fun _ => ?_, (h.on k).mono (by omega), TStep.on t k, b⟩
    have := gen_put t k k (t.gen k + 1) t.runs (adel t.cur k)
    rw [if_pos rfl] at this; exact this
  · exact (tabForget_bad k (by omega) hk s).mono fun e w' ⟨a, b⟩ => ⟨_, _, _, t, a, fun h2 => absurd h2 h1, h.mono (by omega), TStep.refl t, s.ext b⟩
theorem actEnd (n : Int) (o : Outcome) (h : TInv t N) (hN : NOk N) (s : St w0 w (tabA p t :: L)) :
    Calls Try.prog 15 #[ptr p, int n, outV o] w fun e w' =>
      ∃ (v : Value) (b : Bool) (er : Int) (t' : Tab), e = .returned (.tuple #[v, .bool b, int er]) ∧ TInv t' (N + 2) ∧ TStep t t' ∧ St w0 w' (tabA p t' :: L) := by
  cases hx : aget t.runs n with
  | none => exact (tabEnd_none n o hx s).mono fun e w' ⟨a, b⟩ => ⟨_, _, _, t, a, h.mono (by omega), TStep.refl t, s.ext b⟩
  | some x =>
    have hr := h.recOk hN x hx
    cases ho : o.right
    · exact (tabEnd_bad (q := x.1) (r := x.2) n o hx hr ho s).mono fun e w' ⟨a, b⟩ => ⟨_, _, _, t, a, h.mono (by omega), TStep.refl t, s.ext b⟩
    · obtain ⟨h1, h2⟩ := h.fin hx
      exact (tabEnd_ok (q := x.1) (r := x.2) n o hx hr ho s).mono fun e w' ⟨v, a, b⟩ => ⟨v, _, _, _, a, h1.mono (by omega), h2, b.drop⟩
theorem asc_sorted {l : List Int} (h : l.Pairwise (· < ·)) : l.mergeSort leI = l :=
  List.mergeSort_of_pairwise (h.imp fun h => by simp only [leI, decide_eq_true_eq]; omega)
theorem wf64 {n : Int} (h1 : -9223372036854775808 ≤ n) (h2 : n ≤ 9223372036854775807) : (Lit.int .i64 n).wf = true := by
  have e1 : IntKind.i64.min = -9223372036854775808 := by decide
  have e2 : IntKind.i64.max = 9223372036854775807 := by decide
  simp only [Lit.wf, e1, e2, Bool.and_eq_true, decide_eq_true_eq]
  exact ⟨h1, h2⟩
theorem actProgress (h : TInv t N) (hN : NOk N) (s : St w0 w (tabA p t :: L)) :
    Calls Try.prog 17 #[ptr p] w fun e w' => ∃ (ad : Option Addr) (c : Nat), e = .returned (.slice ad t.runs.length c) ∧ Below w.heap.size w w' ∧
      St w0 w' (rowA 3 1 (.slice ad t.runs.length c) t.runs.length ((akeys t.runs).map int) :: tabA p t :: L) := by
  have hfl := h.fl
  have hlen := h.len
  have hbg := h.bg
  have hN' : ((N : Int) + 2) * 40 ≤ 140737488355328 := hN
  refine (tabProgress_ok (fun k hk => ?_) (by omega) s).mono ?_
  · have := h.rng k hk
    exact wf64 (by omega) (by omega)
  · rintro e w' ⟨v, rfl, hb, s'⟩
    obtain ⟨ad, c, rfl⟩ := s'.rowShape
    rw [asc_sorted h.asc] at s'
    exact ⟨ad, c, rfl, hb, s'⟩
end Ytfhfkfnffajciaa
end Go.Proofs
