/- Part 7 of the proof of FnExactPutSample: contracts of the functions that it reaches, printed and by hand, and what they come to in plain Lean. -/
import Derived.Test.YtplekidnlofioaaAFnExactPutSample1
import Derived.Deep.Slices
import Derived.SizedLaws
import Derived.ChangeArms
namespace Go.Proofs.Ytplekidnlofioaa.Opens
open Go Go.RowKit Go.Proofs.YtplekidnlofioaaW.PrintWords
def Opn {α : Type} (P : Program) (d : Kd α) (t : TypeId) (ok : α → Prop) : Prop :=
  ∀ (H : Type) (enc : TypeId × Value → H) (W : World) (base : Nat) (spare : Nat → Bool) (held : Bool) (fuel : Nat) (cs : List Value) (x : DataW H × List MemPlace),
    DataW.trod enc P W base spare held fuel t cs = some x → (∀ k ∈ x.1.weights P t, k ≤ reachBytes) → ∃ y : α, d.K W y cs ∧ ok y
def okI (k : IntKind) (y : Int) : Prop := (Lit.int k y).wf = true
def okS (y : ByteArray) : Prop := y.size ≤ reachBytes
def okL {α : Type} (B : Nat) (ok : α → Prop) (ys : List α) : Prop := ys.length * B ≤ reachBytes ∧ ∀ y ∈ ys, ok y
variable {P : Program} {t e : TypeId}
theorem opn_int {k : IntKind} (ht : P.underlying t = some (.int k)) : Opn P (Kd.int k) t (okI k) := by
  intro H enc W base spare held fuel cs x h _
  obtain ⟨n, rfl, rfl, wf⟩ := DataW.trod_int ht h
  exact ⟨n, rfl, wf⟩
theorem opn_string (ht : P.underlying t = some .string) : Opn P Kd.string t okS := by
  intro H enc W base spare held fuel cs x h hw
  obtain ⟨s, rfl, rfl, _⟩ := DataW.trod_string ht h
  refine ⟨s, rfl, ?_⟩
  have := hw s.data.toList.length (by simp [DataW.weights])
  rw [Array.length_toList] at this
  exact this
theorem weightsAll_mem {H : Type} {ds : List (DataW H)} {d : DataW H} (h : d ∈ ds) {k : Nat} (hk : k ∈ d.weights P e) : k ∈ DataW.weightsAll P e ds := by
  induction ds with
  | nil => cases h
  | cons a r ih =>
    rw [DataW.weightsAll, List.mem_append]
    rcases List.mem_cons.1 h with rfl | h
    · exact .inl hk
    · exact .inr (ih h)
theorem weightsEach_at {H : Type} : ∀ {ts : List TypeId} {ds : List (DataW H)} {i : Nat} {t : TypeId} {d : DataW H}, ts[i]? = some t → ds[i]? = some d → ∀ {k : Nat}, k ∈ d.weights P t → k ∈ DataW.weightsEach P ts ds
  | [], _, _, _, _, h, _, _, _ => by simp at h
  | _ :: _, [], _, _, _, _, h, _, _ => by simp at h
  | t' :: ts, d' :: ds, 0, t, d, h, h', k, hk => by
    simp only [List.getElem?_cons_zero, Option.some.injEq] at h h'
    subst h h'
    rw [DataW.weightsEach, List.mem_append]
    exact .inl hk
  | t' :: ts, d' :: ds, i + 1, t, d, h, h', k, hk => by
    simp only [List.getElem?_cons_succ] at h h'
    rw [DataW.weightsEach, List.mem_append]
    exact .inr (weightsEach_at h h' hk)
theorem cells_at {w : World} {base n : Nat} {a : Addr} {cs : List Value} (h : w.cells? base a n = some cs) : cs.length = n ∧ ∀ i u, cs[i]? = some u → w.cell? (a.add i) = some u := by
  unfold World.cells? at h
  split at h
  · have hl := mapM_some_length h
    rw [List.length_range] at hl
    refine ⟨hl, fun i u hu => ?_⟩
    have hi : i < n := by rw [← hl]; exact (List.getElem?_eq_some_iff.1 hu).1
    have := mapM_some_get h i i (by rw [List.getElem?_range hi])
    rw [this, hu]
  · cases h
theorem opn_slice {α : Type} [Inhabited α] {d : Kd α} {ok : α → Prop} (hd : Opn P d e ok) (hu : P.underlying t = some (.slice e)) (hc : P.cellsOf e = d.sz) {B : Nat} (hB : P.bytesOf e = B) (e' : Nat) : Opn P (Kd.slice e' d) t (okL B ok) := by
  intro H enc W base spare held fuel cs x h hw
  rcases Deep.open_slice hu h with ⟨rfl, rfl⟩ | ⟨a, len, cap, m, n, D, Pl, rfl, _, hl, hm, hmm, rfl, hel⟩
  · exact ⟨[], ⟨none, 0, rfl, Nat.le_refl _, Kd.C_nil d W⟩, by simp [okL]⟩
  · have hle : len ≤ m := by rw [hmm]; split <;> omega
    simp only [DataW.weights, hu] at hw
    have hel2 : ∀ i, i < len → ∃ y : α, ok y ∧ ∃ c, c.length = d.sz ∧ d.K W y c ∧ ∀ j u, c[j]? = some u → W.cell? (a.add (i * d.sz + j)) = some u := by
      intro i hi
      obtain ⟨c, hcs, htr⟩ := hel i (by omega)
      obtain ⟨y, hK, hok⟩ := hd H enc W base spare held n c _ htr (fun k hk => hw k (List.mem_cons_of_mem _ (List.mem_append_left _ (weightsAll_mem (List.mem_map.2 ⟨i, List.mem_range.2 hi, rfl⟩) hk))))
      obtain ⟨h1, h2⟩ := cells_at hcs
      refine ⟨y, hok, c, h1.trans hc, hK, fun j u hj => ?_⟩
      have := h2 j u hj
      rw [Deep.add_add, hc] at this
      exact this
    obtain ⟨f, hf⟩ := Deep.choose_lt hel2
    refine ⟨(List.range len).map f, ⟨some a, cap, by rw [List.length_map, List.length_range], by rw [List.length_map, List.length_range]; exact hl, by simp, by rw [List.length_map, List.length_range]; exact Nat.le_trans hl hm, fun _ => ⟨a, rfl, fun j p hp => ?_⟩⟩, ?_, fun y hy => ?_⟩
    · rw [List.getElem?_map] at hp
      obtain ⟨j', hj', rfl⟩ := Option.map_eq_some_iff.1 hp
      have hj : j < len := by have := (List.getElem?_eq_some_iff.1 hj').1; simpa using this
      rw [List.getElem?_range hj] at hj'
      obtain rfl := Option.some.inj hj'
      exact (hf j hj).2
    · have := hw _ List.mem_cons_self
      rw [hB, List.length_map, List.length_map, List.length_range, List.length_range] at this
      rw [List.length_map, List.length_range]
      exact Nat.le_trans (Nat.mul_le_mul_right _ (by omega)) this
    · obtain ⟨i, hi, rfl⟩ := List.mem_map.1 hy
      exact (hf i (List.mem_range.1 hi)).1
def OpnF {α : Type} (P : Program) (d : Kd α) (fs : List Field) (off : Nat) (ok : α → Prop) : Prop :=
  ∀ (H : Type) (enc : TypeId × Value → H) (W : World) (base : Nat) (spare : Nat → Bool) (held : Bool) (fuel : Nat) (cs : List Value) (xs : List (DataW H × List MemPlace)),
    (∀ (i : Nat) (f : Field), fs[i]? = some f → DataW.trod enc P W base spare held fuel f.type ((cs.drop f.offset).take (P.cellsOf f.type)) = xs[i]?) → xs.length = fs.length →
    (∀ k ∈ DataW.weightsEach P (fs.map (·.type)) (xs.map (·.1)), k ≤ reachBytes) → cs.length = off + d.sz → ∃ y : α, d.K W y (cs.drop off) ∧ ok y
theorem opnF_one {α : Type} {d : Kd α} {f : Field} {off : Nat} {ok : α → Prop} (hd : Opn P d f.type ok) (hc : P.cellsOf f.type = d.sz) (ho : f.offset = off) : OpnF P d [f] off ok := by
  intro H enc W base spare held fuel cs xs hx hl hw hlen
  obtain ⟨x, rfl⟩ : ∃ x, xs = [x] := by
    match xs, hl with
    | [x], _ => exact ⟨x, rfl⟩
  have h0 := hx 0 f rfl
  rw [ho, hc, List.take_of_length_le (by rw [List.length_drop]; omega)] at h0
  exact hd H enc W base spare held fuel _ x h0 (fun k hk => hw k (by simpa [DataW.weightsEach] using hk))
theorem opnF_cons {α β : Type} {a : Kd α} {b : Kd β} {f : Field} {fs : List Field} {off : Nat} {ok : α → Prop} {ok' : β → Prop} (hd : Opn P a f.type ok) (hc : P.cellsOf f.type = a.sz) (ho : f.offset = off)
    (hr : OpnF P b fs (off + a.sz) ok') : OpnF P (Kd.pair a b) (f :: fs) off (fun p => ok p.1 ∧ ok' p.2) := by
  intro H enc W base spare held fuel cs xs hx hl hw hlen
  obtain ⟨x, xs, rfl⟩ : ∃ x xs', xs = x :: xs' := by
    match xs, hl with
    | x :: xs', _ => exact ⟨x, xs', rfl⟩
  have h0 := hx 0 f rfl
  rw [ho, hc] at h0
  obtain ⟨y, hy, oky⟩ := hd H enc W base spare held fuel _ x h0 (fun k hk => hw k (by rw [List.map_cons, List.map_cons, DataW.weightsEach, List.mem_append]; exact .inl hk))
  have hlen2 : cs.length = off + a.sz + b.sz := by rw [hlen]; show off + (a.sz + b.sz) = _; omega
  obtain ⟨z, hz, okz⟩ := hr H enc W base spare held fuel cs xs (fun i g hg => by have := hx (i + 1) g (by simpa using hg); simpa using this) (by simpa using hl) (fun k hk => hw k (by rw [List.map_cons, List.map_cons, DataW.weightsEach, List.mem_append]; exact .inr hk)) hlen2
  refine ⟨(y, z), ⟨(cs.drop off).take a.sz, cs.drop (off + a.sz), ?_, hy, hz⟩, oky, okz⟩
  rw [← List.drop_drop, List.take_append_drop]
theorem opn_struct {α β : Type} {d : Kd α} {fs : Array Field} {ok : α → Prop} (hF : OpnF P d fs.toList 0 ok) (ht : P.underlying t = some (.struct fs)) (hc : P.cellsOf t = d.sz) (f : β → α) (g : α → β) (hfg : ∀ y, f (g y) = y) :
    Opn P (Kd.iso d f) t (fun y => ok (f y)) := by
  intro H enc W base spare held fuel cs x h hw
  obtain ⟨xs, n, rfl, rfl, hl, hxl, hx⟩ := DataW.trod_struct ht h
  simp only [DataW.weights, ht] at hw
  obtain ⟨y, hy, oky⟩ := hF H enc W base spare held n cs xs (fun i f hf => hx i f (by simpa using hf)) (by simpa using hxl) hw (by rw [hl, hc]; omega)
  refine ⟨g y, ?_, ?_⟩
  · show d.K W (f (g y)) cs
    rw [hfg]
    exact hy
  · show ok (f (g y))
    rw [hfg]
    exact oky
theorem opnF_one' {α : Type} {d : Kd α} {t' : TypeId} {ok : α → Prop} (hd : Opn P d t' ok) (hc : P.cellsOf t' = d.sz) {f : Field} {off : Nat} (ht : f.type = t') (ho : f.offset = off) : OpnF P d [f] off ok := by
  subst ht
  exact opnF_one hd hc ho
theorem opnF_cons' {α β : Type} {a : Kd α} {b : Kd β} {t' : TypeId} {ok : α → Prop} {ok' : β → Prop} (hd : Opn P a t' ok) (hc : P.cellsOf t' = a.sz) {f : Field} {fs : List Field} {off : Nat} (ht : f.type = t') (ho : f.offset = off)
    (hr : OpnF P b fs (off + a.sz) ok') : OpnF P (Kd.pair a b) (f :: fs) off (fun p => ok p.1 ∧ ok' p.2) := by
  subst ht
  exact opnF_cons hd hc ho hr
theorem agg_cells {v : Array Value} {cs : List Value} (h : (Value.agg v).cells.toList = cs) : v = cs.toArray := by
  subst h
  simp [Value.cells]
theorem open_arg {α : Type} {d : Kd α} {ok : α → Prop} {H : Type} {enc : TypeId × Value → H} {W : World} {base : Nat} {spare : Nat → Bool} {held : Bool} {v : Value} {dd : DataW H} {ps : List MemPlace} {ts : List TypeId} {ds : List (DataW H)} {j : Nat} (hd : Opn P d t ok)
    (h : DataW.Trod enc P W base spare held t v dd ps) (hsz : (DataW.weightsEach P ts ds).all (· ≤ reachBytes) = true) (ht : ts[j]? = some t) (hj : ds[j]? = some dd) : ∃ y : α, d.K W y v.cells.toList ∧ ok y := by
  obtain ⟨fuel, hf⟩ := h
  exact hd H enc W base spare held fuel _ _ hf (fun k hk => by
    have := List.all_eq_true.1 hsz k (weightsEach_at ht hj hk)
    simpa using this)
end Go.Proofs.Ytplekidnlofioaa.Opens
