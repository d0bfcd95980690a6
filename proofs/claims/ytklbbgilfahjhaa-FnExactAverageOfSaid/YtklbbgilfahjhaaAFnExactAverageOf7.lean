/- Part 7 of the proof of FnExactAverageOf: contracts of the functions that it reaches, printed and by hand, and what they come to in plain Lean. -/
import Derived.Test.YtklbbgilfahjhaaAFnExactAverageOf2
import Derived.Test.YtklbbgilfahjhaaAFnExactAverageOf6
import Derived.KernelRfl
import Derived.Test.YtklbbgilfahjhaaAFnExactAverageOf5
namespace Go.Proofs.Ytklbbgilfahjhaa.Q
open Go.RowKit Go.Proofs.Ytklbbgilfahjhaa.Opens Go.Proofs.YtklbbgilfahjhaaW.PrintWords
instance : Inhabited S37 := ⟨z37⟩
instance : Inhabited S84 := ⟨z84⟩
instance : Inhabited S221 := ⟨z221⟩
def ok221 (y : S221) : Prop := okI .i64 y.f0 ∧ okI .i64 y.f1
theorem opn221 : Opn Try.prog k221 221 ok221 := by
  refine opn_struct (ok := fun p => okI .i64 p.1 ∧ okI .i64 p.2) ?_ Try.underlying221 (by kernel_rfl) (fun x : S221 => (x.f0, x.f1)) (fun p => ⟨p.1, p.2⟩) (fun _ => rfl)
  refine opnF_cons' (P := Try.prog) (ok' := fun (p : Int) => okI .i64 p) (opn_int Try.underlying3) (by kernel_rfl) (by rfl) (by rfl) ?_
  exact opnF_one' (P := Try.prog) (opn_int Try.underlying3) (by kernel_rfl) (by rfl) (by rfl)
instance : Inhabited S140 := ⟨z140⟩
def ok140 (y : S140) : Prop := okS y.f0 ∧ okS y.f1 ∧ okL 16 ok221 y.f2
theorem opn140 : Opn Try.prog k140 140 ok140 := by
  refine opn_struct (ok := fun p => okS p.1 ∧ okS p.2.1 ∧ okL 16 ok221 p.2.2) ?_ Try.underlying140 (by kernel_rfl) (fun x : S140 => (x.f0, x.f1, x.f2)) (fun p => ⟨p.1, p.2.1, p.2.2⟩) (fun _ => rfl)
  refine opnF_cons' (P := Try.prog) (ok' := fun (p : ByteArray × List (S221)) => okS p.1 ∧ okL 16 ok221 p.2) (opn_string Try.underlying9) (by kernel_rfl) (by rfl) (by rfl) ?_
  refine opnF_cons' (P := Try.prog) (ok' := fun (p : List (S221)) => okL 16 ok221 p) (opn_string Try.underlying9) (by kernel_rfl) (by rfl) (by rfl) ?_
  exact opnF_one' (P := Try.prog) (opn_slice opn221 Try.underlying138 (by kernel_rfl) (B := 16) (by kernel_rfl) 221) (by kernel_rfl) (by rfl) (by rfl)
instance : Inhabited S148 := ⟨z148⟩
instance : Inhabited S151 := ⟨z151⟩
instance : Inhabited S30 := ⟨z30⟩
instance : Inhabited S71 := ⟨z71⟩
instance : Inhabited S224 := ⟨z224⟩
instance : Inhabited S240 := ⟨z240⟩
instance : Inhabited S210 := ⟨z210⟩
instance : Inhabited S212 := ⟨z212⟩
instance : Inhabited S235 := ⟨z235⟩
instance : Inhabited S206 := ⟨z206⟩
instance : Inhabited S168 := ⟨z168⟩
instance : Inhabited S170 := ⟨z170⟩
end Go.Proofs.Ytklbbgilfahjhaa.Q
namespace Go.Proofs.Ytklbbgilfahjhaa.Q
open Go.Proofs.Ytklbbgilfahjhaa.Opens Go.RowKit Go.Proofs.YtklbbgilfahjhaaW.PrintWords Go.Proofs.YtklbbgilfahjhaaW.PrintLast
theorem fit_toS {l : List S140} (h : ∀ s ∈ l, wS s ≤ 1048576) : ∀ s ∈ l.map toS, fitS s := by
  intro s hs
  obtain ⟨x, hx, rfl⟩ := List.mem_map.1 hs
  have := h x hx
  unfold wS at this
  refine ⟨?_, ?_, ?_⟩
  · show x.f0.size < _; omega
  · show x.f1.size < _; omega
  · show (x.f2.map toP).length < _
    rw [List.length_map]; omega
theorem averageOf_pure (l : List S140) (hl : l.length ≤ 140737488351232) (hb : ∀ s ∈ l, bigS s) (a b : ByteArray) (lo hi : Int) : ∃ k, laws_FnExactAverageOf.f k l a b lo hi = some true := by
  apply Ev.rounds
  unfold laws_FnExactAverageOf.f
  by_cases c1 : (a.size : Int) > 1048576
  · simp only [c1, if_true]; exact Ev.now _
  · by_cases c2 : (b.size : Int) > 1048576
    · simp only [c1, c2, if_true, if_false]; exact Ev.now _
    · simp only [c1, c2, if_false]
      refine Ev.bind (szSeriesS_ev l hl hb 1048576 (by decide) (by decide)) ?_
      have n2 := wL_nn l
      by_cases c : (1048576 : Int) - l.length - wL l < 0
      · rw [cutN_neg c]
        simp only [show ((-1 : Int) < 0) from by decide, if_true]; exact Ev.now _
      · rw [cutN_nn c]
        simp only [c, if_false]
        have hw : ∀ s ∈ l, wS s ≤ 1048576 := fun s hs => by have := wL_mem hs; omega
        have hp : ∀ s ∈ l, s.f2.length ≤ 1048576 := fun s hs => by have := hw s hs; unfold wS at this; omega
        have hto := toSeriesS_ev l (by omega) hp
        have hf := fit_toS hw
        have hlen : (l.map toS).length < 4611686018427387904 := by rw [List.length_map]; omega
        refine Ev.bind hto ?_
        refine Ev.bind (spec_AverageOf_ev _ hlen hf a b lo hi) ?_
        refine Ev.bind hto ?_
        refine Ev.bind (impl_AverageOf_ev _ hlen hf a b lo hi) ?_
        simp only [if_true, bne_self_eq_false]
        refine Ev.step (fun k => by rw [laws_FnExactAverageOf.j0]) ?_
        simp only [if_neg no_ft]
        refine Ev.bind hto ?_
        refine Ev.bind (eqSeriesS_ev _ hlen (fun s hs => (hf s hs).2.2)) ?_
        simp only [if_true]
        exact Ev.now _
theorem big_of {l : List S140} (h : okL 56 ok140 l) : l.length ≤ 140737488351232 ∧ ∀ s ∈ l, bigS s := by
  have e : reachBytes = 140737488351232 := rfl
  refine ⟨by have := h.1; rw [e] at this; omega, fun s hs => ?_⟩
  obtain ⟨h1, h2, h3, _⟩ := h.2 s hs
  unfold okS at h1 h2
  rw [e] at h1 h2 h3
  exact ⟨h1, h2, by omega⟩
theorem averageOf_true (l : List S140) (a b : ByteArray) (lo hi : Int) (h : okL 56 ok140 l) (_ : okS a) (_ : okS b) (_ : okI .i64 lo) (_ : okI .i64 hi) : ∃ k, laws_FnExactAverageOf.f k l a b lo hi = some true := averageOf_pure l (big_of h).1 (big_of h).2 a b lo hi
end Go.Proofs.Ytklbbgilfahjhaa.Q
