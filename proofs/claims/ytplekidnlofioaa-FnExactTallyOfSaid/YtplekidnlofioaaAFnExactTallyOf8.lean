/- Part 8 of the proof of FnExactTallyOf: contracts of the functions that it reaches, printed and by hand, and what they come to in plain Lean. -/
import Derived.Test.YtplekidnlofioaaAFnExactTallyOf2
import Derived.Test.YtplekidnlofioaaAFnExactTallyOf7
import Derived.KernelRfl
import Derived.Test.YtplekidnlofioaaAFnExactTallyOf6
namespace Go.Proofs.Ytplekidnlofioaa.Q
open Go.RowKit Go.Proofs.Ytplekidnlofioaa.Opens Go.Proofs.YtplekidnlofioaaW.PrintWords
structure S56 where
  f0 : Int
  f1 : Int
  f2 : Int
def z56 : S56 := ⟨(0 : Int), (0 : Int), (0 : Int)⟩
def k56 : Kd S56 := Kd.iso (Kd.pair (Kd.int .i64) (Kd.pair (Kd.int .i64) (Kd.int .i64))) (fun x : S56 => (x.f0, x.f1, x.f2))
theorem k56_open {w : World} {x : S56} {cs : List Value} (h : k56.K w x cs) : cs = [.int .i64 x.f0, .int .i64 x.f1, .int .i64 x.f2] := by
  obtain ⟨_, _, rfl, rfl, ⟨_, _, rfl, rfl, rfl⟩⟩ := h
  exact rfl
instance : Inhabited S37 := ⟨z37⟩
instance : Inhabited S81 := ⟨z81⟩
instance : Inhabited S219 := ⟨z219⟩
def ok219 (y : S219) : Prop := okI .i64 y.f0 ∧ okI .i64 y.f1
theorem opn219 : Opn Try.prog k219 219 ok219 := by
  refine opn_struct (ok := fun p => okI .i64 p.1 ∧ okI .i64 p.2) ?_ Try.underlying219 (by kernel_rfl) (fun x : S219 => (x.f0, x.f1)) (fun p => ⟨p.1, p.2⟩) (fun _ => rfl)
  refine opnF_cons' (P := Try.prog) (ok' := fun (p : Int) => okI .i64 p) (opn_int Try.underlying3) (by kernel_rfl) (by rfl) (by rfl) ?_
  exact opnF_one' (P := Try.prog) (opn_int Try.underlying3) (by kernel_rfl) (by rfl) (by rfl)
instance : Inhabited S137 := ⟨z137⟩
def ok137 (y : S137) : Prop := okS y.f0 ∧ okS y.f1 ∧ okL 16 ok219 y.f2
theorem opn137 : Opn Try.prog k137 137 ok137 := by
  refine opn_struct (ok := fun p => okS p.1 ∧ okS p.2.1 ∧ okL 16 ok219 p.2.2) ?_ Try.underlying137 (by kernel_rfl) (fun x : S137 => (x.f0, x.f1, x.f2)) (fun p => ⟨p.1, p.2.1, p.2.2⟩) (fun _ => rfl)
  refine opnF_cons' (P := Try.prog) (ok' := fun (p : ByteArray × List (S219)) => okS p.1 ∧ okL 16 ok219 p.2) (opn_string Try.underlying9) (by kernel_rfl) (by rfl) (by rfl) ?_
  refine opnF_cons' (P := Try.prog) (ok' := fun (p : List (S219)) => okL 16 ok219 p) (opn_string Try.underlying9) (by kernel_rfl) (by rfl) (by rfl) ?_
  exact opnF_one' (P := Try.prog) (opn_slice opn219 Try.underlying135 (by kernel_rfl) (B := 16) (by kernel_rfl) 219) (by kernel_rfl) (by rfl) (by rfl)
instance : Inhabited S144 := ⟨z144⟩
def ok144 (y : S144) : Prop := okS y.f0 ∧ okI .i64 y.f1 ∧ okI .i64 y.f2 ∧ okB y.f3
theorem opn144 : Opn Try.prog k144 144 ok144 := by
  refine opn_struct (ok := fun p => okS p.1 ∧ okI .i64 p.2.1 ∧ okI .i64 p.2.2.1 ∧ okB p.2.2.2) ?_ Try.underlying144 (by kernel_rfl) (fun x : S144 => (x.f0, x.f1, x.f2, x.f3)) (fun p => ⟨p.1, p.2.1, p.2.2.1, p.2.2.2⟩) (fun _ => rfl)
  refine opnF_cons' (P := Try.prog) (ok' := fun (p : Int × Int × Bool) => okI .i64 p.1 ∧ okI .i64 p.2.1 ∧ okB p.2.2) (opn_string Try.underlying9) (by kernel_rfl) (by rfl) (by rfl) ?_
  refine opnF_cons' (P := Try.prog) (ok' := fun (p : Int × Bool) => okI .i64 p.1 ∧ okB p.2) (opn_int Try.underlying3) (by kernel_rfl) (by rfl) (by rfl) ?_
  refine opnF_cons' (P := Try.prog) (ok' := fun (p : Bool) => okB p) (opn_int Try.underlying3) (by kernel_rfl) (by rfl) (by rfl) ?_
  exact opnF_one' (P := Try.prog) (opn_bool Try.underlying4) (by kernel_rfl) (by rfl) (by rfl)
instance : Inhabited S147 := ⟨z147⟩
instance : Inhabited S30 := ⟨z30⟩
instance : Inhabited S68 := ⟨z68⟩
instance : Inhabited S223 := ⟨z223⟩
instance : Inhabited S239 := ⟨z239⟩
instance : Inhabited S208 := ⟨z208⟩
instance : Inhabited S210 := ⟨z210⟩
instance : Inhabited S234 := ⟨z234⟩
instance : Inhabited S204 := ⟨z204⟩
instance : Inhabited S167 := ⟨z167⟩
instance : Inhabited S169 := ⟨z169⟩
instance : Inhabited S56 := ⟨z56⟩
def ok56 (y : S56) : Prop := okI .i64 y.f0 ∧ okI .i64 y.f1 ∧ okI .i64 y.f2
theorem opn56 : Opn Try.prog k56 56 ok56 := by
  refine opn_struct (ok := fun p => okI .i64 p.1 ∧ okI .i64 p.2.1 ∧ okI .i64 p.2.2) ?_ Try.underlying56 (by kernel_rfl) (fun x : S56 => (x.f0, x.f1, x.f2)) (fun p => ⟨p.1, p.2.1, p.2.2⟩) (fun _ => rfl)
  refine opnF_cons' (P := Try.prog) (ok' := fun (p : Int × Int) => okI .i64 p.1 ∧ okI .i64 p.2) (opn_int Try.underlying3) (by kernel_rfl) (by rfl) (by rfl) ?_
  refine opnF_cons' (P := Try.prog) (ok' := fun (p : Int) => okI .i64 p) (opn_int Try.underlying3) (by kernel_rfl) (by rfl) (by rfl) ?_
  exact opnF_one' (P := Try.prog) (opn_int Try.underlying3) (by kernel_rfl) (by rfl) (by rfl)
end Go.Proofs.Ytplekidnlofioaa.Q
namespace Go.Proofs.Ytplekidnlofioaa.Q
open Go.Proofs.Ytplekidnlofioaa.Opens Go.RowKit Go.Proofs.YtplekidnlofioaaW.PrintWords Go.Proofs.YtplekidnlofioaaW.PrintLast
/-- The usage of one pod. -/
def useV (l : List S81) (a : ByteArray) (now z : Int) (p : S147) : Int := if (avV l p.f0 a (wrap64 (now - z)) now).2 = true then (avV l p.f0 a (wrap64 (now - z)) now).1 else (latV l p.f0 a).2.1
def usg (g : S147 → Int) : List S147 → List Int → List Int
  | p :: r, c :: cs => if c = 0 then g p :: usg g r cs else usg g r cs
  | _, _ => []
def finV (cs : List Int) (v : List Int) : Int × Int × Int × Int × Bool := if (addV v).2 = true then (0, 0, 0, 0, false) else (cntV 0 cs, cntV 1 cs, cntV 2 cs, (addV v).1, true)
theorem usg_len (g : S147 → Int) : ∀ (r : List S147) (cs : List Int), r.length = cs.length → ((usg g r cs).length : Int) = cntV 0 cs
  | [], [], _ => rfl
  | [], _ :: _, h => by cases h
  | _ :: _, [], h => by cases h
  | p :: r, c :: cs, h => by
    have := usg_len g r cs (Nat.succ.inj h)
    simp only [usg, cntV]
    split
    · rw [List.length_cons]; omega
    · omega
def tallyV (ps : List S147) (l : List S81) (a : ByteArray) (now x y z : Int) : Int × Int × Int × Int × Bool :=
  if podsOk ps = true ∧ (classesV ps l a now x y z).length = ps.length then finV (classesV ps l a now x y z) (usg (useV l a now z) ps (classesV ps l a now x y z)) else (0, 0, 0, 0, false)
theorem spec_Tally_l0_ev (ps : List S147) (hp : ps.length < 1000000) (l : List S81) (hx : l.length < 4611686018427387904) (hf : ∀ s ∈ l, fitS s) (a : ByteArray) (now x y z : Int) (cs : List Int) : ∀ suf pre csuf cpre (acc : List Int), ps = pre ++ suf → cs = cpre ++ csuf → cpre.length = pre.length → csuf.length = suf.length → acc.length ≤ pre.length → Ev (fun k => spec_TallyOf.l0 k ps l a now cs acc (pre.length : Int) x y z (cntV 0 cs) (cntV 1 cs) (cntV 2 cs) 0) (finV cs (acc ++ usg (useV l a now z) suf csuf)) := by
  intro suf
  induction suf with
  | nil =>
    intro pre csuf cpre acc h hc e1 e2 ha
    refine Ev.step (fun k => by rw [spec_TallyOf.l0]) ?_
    have hlt : ¬ ((pre.length : Int) < (ps.length : Int)) := by rw [h]; simp
    simp only [if_neg hlt, usg, List.append_nil, finV]
    refine Ev.bind (spec_Add_ev acc) ?_
    cases (addV acc).2
    · simp only [if_neg no_ft]; exact Ev.now _
    · simp only [if_true]; exact Ev.now _
  | cons p suf ih =>
    intro pre csuf cpre acc h hc e1 e2 ha
    cases csuf with
    | nil => cases e2
    | cons c csuf =>
      refine Ev.step (fun k => by rw [spec_TallyOf.l0]) ?_
      have hlt : ((pre.length : Int) < (ps.length : Int)) := by rw [h]; exact lt_mid _ _ _
      have hlt2 : ((pre.length : Int) < (cs.length : Int)) := by rw [hc, ← e1]; exact lt_mid _ _ _
      have hw := wrapn pre.length (by omega)
      have hrd : rd_T147 ps (pre.length : Int) = p := by rw [h]; exact rdPd_mid _ _ _
      have hrc : rd cs (pre.length : Int) = c := by rw [hc, ← e1]; exact rd_mid _ _ _
      have hb : acc.length < 17592186044416 := by omega
      have hl1 : (pre ++ [p]).length = pre.length + 1 := by simp
      have hr := fun acc ha => ih (pre ++ [p]) csuf (cpre ++ [c]) acc (by rw [h]; simp) (by rw [hc]; simp) (by simp [e1]) (Nat.succ.inj e2) ha
      simp only [hl1] at hr
      simp only [if_pos hlt, if_pos (nn _), if_pos hlt2, hrd, hrc, hw, if_pos hb, usg]
      by_cases c0 : c = 0
      · simp only [c0, if_true]
        have hk := hr (acc ++ [useV l a now z p]) (by simp; omega)
        rw [List.append_assoc] at hk
        refine Ev.bind (spec_AverageOf_ev l hx hf p.f0 a _ _) ?_
        unfold useV at hk ⊢
        by_cases cc : (avV l p.f0 a (wrap64 (now - z)) now).2 = true
        · simp only [if_pos cc] at hk ⊢
          exact hk
        · simp only [if_neg cc] at hk ⊢
          exact Ev.bind (spec_LatestOf_ev l hx hf p.f0 a) hk
      · simp only [c0, if_false]
        exact hr acc (by omega)
theorem impl_Tally_l0_ev (ps : List S147) (hp : ps.length < 1000000) (l : List S81) (hx : l.length < 4611686018427387904) (hf : ∀ s ∈ l, fitS s) (a : ByteArray) (now x y z : Int) (cs : List Int) (hcs : cs.length < 1000000) : ∀ suf pre csuf cpre (acc : List Int), ps = pre ++ suf → cs = cpre ++ csuf → cpre.length = pre.length → csuf.length = suf.length → acc.length ≤ pre.length → ((acc ++ usg (useV l a now z) suf csuf).length : Int) = cntV 0 cs → Ev (fun k => impl_TallyOf.l0 k l a now cs acc ps (ps.length : Int) (pre.length : Int) x y z) (finV cs (acc ++ usg (useV l a now z) suf csuf)) := by
  intro suf
  induction suf with
  | nil =>
    intro pre csuf cpre acc h hc e1 e2 ha hn
    refine Ev.step (fun k => by rw [impl_TallyOf.l0]) ?_
    have hlt : ¬ ((pre.length : Int) < (ps.length : Int)) := by rw [h]; simp
    simp only [usg, List.append_nil] at hn
    simp only [if_neg hlt, usg, List.append_nil, finV]
    refine Ev.bind (impl_Add_ev acc) ?_
    cases (addV acc).2
    · simp only [if_neg no_ft]
      refine Ev.bind (impl_CountClass_ev cs (by omega) 1) ?_
      refine Ev.bind (impl_CountClass_ev cs (by omega) 2) ?_
      rw [hn]
      exact Ev.now _
    · simp only [if_true]; exact Ev.now _
  | cons p suf ih =>
    intro pre csuf cpre acc h hc e1 e2 ha hn
    cases csuf with
    | nil => cases e2
    | cons c csuf =>
      refine Ev.step (fun k => by rw [impl_TallyOf.l0]) ?_
      have hlt : ((pre.length : Int) < (ps.length : Int)) := by rw [h]; exact lt_mid _ _ _
      have hlt2 : ((pre.length : Int) < (cs.length : Int)) := by rw [hc, ← e1]; exact lt_mid _ _ _
      have hw := wrapn pre.length (by clear hn ih; omega)
      have hrd : rd_T147 ps (pre.length : Int) = p := by rw [h]; exact rdPd_mid _ _ _
      have hrc : rd cs (pre.length : Int) = c := by rw [hc, ← e1]; exact rd_mid _ _ _
      have hb : acc.length < 17592186044416 := by clear hn ih; omega
      have hl1 : (pre ++ [p]).length = pre.length + 1 := by simp
      have hr := fun acc ha hn => ih (pre ++ [p]) csuf (cpre ++ [c]) acc (by rw [h]; simp) (by rw [hc]; simp) (by simp [e1]) (Nat.succ.inj e2) ha hn
      simp only [hl1] at hr
      simp only [usg] at hn
      simp only [if_pos hlt, if_pos (nn _), if_pos hlt2, hrd, hrc, hw, if_pos hb, usg]
      by_cases c0 : c = 0
      · rw [if_pos c0] at hn
        simp only [c0, if_true]
        have hk := hr (acc ++ [useV l a now z p]) (by clear hn ih hr; simp; omega) (by rw [List.append_assoc]; exact hn)
        rw [List.append_assoc] at hk
        refine Ev.bind (impl_AverageOf_ev l hx hf p.f0 a _ _) ?_
        unfold useV at hk ⊢
        by_cases cc : (avV l p.f0 a (wrap64 (now - z)) now).2 = true
        · simp only [if_pos cc] at hk ⊢
          exact hk
        · simp only [if_neg cc] at hk ⊢
          exact Ev.bind (impl_LatestOf_ev l hx hf p.f0 a) hk
      · rw [if_neg c0] at hn
        simp only [c0, if_false]
        exact hr acc (by clear hn ih hr; omega) hn
theorem spec_TallyOf_ev (ps : List S147) (hq : ∀ s ∈ ps, fitP s) (l : List S81) (hx : l.length < 4611686018427387904) (hf : ∀ s ∈ l, fitS s) (a : ByteArray) (now x y z : Int) : Ev (fun k => spec_TallyOf.f k ps l a now x y z) (tallyV ps l a now x y z) := by
  unfold spec_TallyOf.f tallyV
  refine Ev.bind (spec_ClassesOf_ev ps hq l hx hf a now x y z) ?_
  refine Ev.bind (spec_PodsOk_ev ps hq) ?_
  by_cases h : podsOk ps = true
  · simp only [if_pos h]
    refine Ev.step (fun k => by rw [spec_TallyOf.j0]) ?_
    have hl := podsOk_len h
    by_cases e : (classesV ps l a now x y z).length = ps.length
    · rw [if_pos ⟨h, e⟩]
      simp only [e, bne_self_eq_false, if_neg no_ft]
      refine Ev.bind (spec_CountClass_ev _ (by omega) 0) ?_
      refine Ev.bind (spec_CountClass_ev _ (by omega) 1) ?_
      refine Ev.bind (spec_CountClass_ev _ (by omega) 2) ?_
      exact spec_Tally_l0_ev ps (by omega) l hx hf a now x y z _ ps [] _ [] [] rfl rfl rfl e (Nat.le_refl _)
    · rw [if_neg (fun h => e h.2)]
      have : (((classesV ps l a now x y z).length : Int) != (ps.length : Int)) = true := by simp; omega
      simp only [this, if_true]
      exact Ev.now _
  · rw [if_neg (fun e => h e.1)]
    simp only [if_neg h]
    refine Ev.step (fun k => by rw [spec_TallyOf.j0]) ?_
    simp only [if_true]
    exact Ev.now _
theorem impl_TallyOf_ev (ps : List S147) (hp : ps.length < 4611686018427387904) (hq : ∀ s ∈ ps, fitP s) (l : List S81) (hx : l.length < 4611686018427387904) (hf : ∀ s ∈ l, fitS s) (a : ByteArray) (now x y z : Int) : Ev (fun k => impl_TallyOf.f k ps l a now x y z) (tallyV ps l a now x y z) := by
  unfold impl_TallyOf.f tallyV
  refine Ev.bind (impl_ClassesOf_ev ps hp hq l hx hf a now x y z) ?_
  refine Ev.bind (impl_PodsOk_ev ps hp hq) ?_
  by_cases h : podsOk ps = true
  · simp only [if_pos h]
    refine Ev.step (fun k => by rw [impl_TallyOf.j0]) ?_
    have hl := podsOk_len h
    by_cases e : (classesV ps l a now x y z).length = ps.length
    · rw [if_pos ⟨h, e⟩]
      simp only [e, bne_self_eq_false, if_neg no_ft]
      exact impl_Tally_l0_ev ps (by omega) l hx hf a now x y z _ (by omega) ps [] _ [] [] rfl rfl rfl e (Nat.le_refl _) (usg_len _ _ _ e.symm)
    · rw [if_neg (fun h => e h.2)]
      have : (((classesV ps l a now x y z).length : Int) != (ps.length : Int)) = true := by simp; omega
      simp only [this, if_true]
      exact Ev.now _
  · rw [if_neg (fun e => h e.1)]
    simp only [if_neg h]
    refine Ev.step (fun k => by rw [impl_TallyOf.j0]) ?_
    simp only [if_true]
    exact Ev.now _
theorem tallyOf_pure (ps : List S144) (hpl : ps.length ≤ 140737488351232) (hpb : ∀ s ∈ ps, bigP s) (l : List S137) (hl : l.length ≤ 140737488351232) (hb : ∀ s ∈ l, bigS s) (a : ByteArray) (now x y z : Int) : ∃ k, laws_FnExactTallyOf.f k ps l a now x y z = some true := by
  apply Ev.rounds
  unfold laws_FnExactTallyOf.f
  by_cases c1 : (a.size : Int) > 1048576
  · simp only [c1, if_true]; exact Ev.now _
  · simp only [c1, if_false]
    refine Ev.bind (szPodS_ev ps hpl hpb 1048576 (by decide) (by decide)) ?_
    have n1 := wPL_nn ps
    by_cases d : (1048576 : Int) - ps.length - wPL ps < 0
    · rw [cutN_neg d]
      simp only [show ((-1 : Int) < 0) from by decide, if_true]; exact Ev.now _
    · rw [cutN_nn d]
      simp only [d, if_false]
      refine Ev.bind (szSeriesS_ev l hl hb _ (by omega) (by omega)) ?_
      have n2 := wL_nn l
      by_cases c : (1048576 : Int) - ps.length - wPL ps - l.length - wL l < 0
      · rw [cutN_neg c]
        simp only [show ((-1 : Int) < 0) from by decide, if_true]; exact Ev.now _
      · rw [cutN_nn c]
        simp only [c, if_false]
        have hwp : ∀ s ∈ ps, wP s ≤ 1048576 := fun s hs => by have := wPL_mem hs; omega
        have hw : ∀ s ∈ l, wS s ≤ 1048576 := fun s hs => by have := wL_mem hs; omega
        have hp : ∀ s ∈ l, s.f2.length ≤ 1048576 := fun s hs => by have := hw s hs; unfold wS at this; omega
        have htp := toPodS_ev ps (by omega)
        have hto := toSeriesS_ev l (by omega) hp
        have hfp := fit_toPd hwp
        have hf := fit_toS hw
        have hlp : (ps.map toPd).length < 4611686018427387904 := by rw [List.length_map]; omega
        have hlen : (l.map toS).length < 4611686018427387904 := by rw [List.length_map]; omega
        refine Ev.bind htp ?_
        refine Ev.bind hto ?_
        simp only [laws_toRules.f, Option.bind_some]
        refine Ev.bind (spec_TallyOf_ev _ hfp _ hlen hf a now x y z) ?_
        refine Ev.bind htp ?_
        refine Ev.bind hto ?_
        refine Ev.bind (impl_TallyOf_ev _ hlp hfp _ hlen hf a now x y z) ?_
        simp only [laws_eqTally.f, if_true, Option.bind_some, bne_self_eq_false]
        refine Ev.step (fun k => by rw [laws_FnExactTallyOf.j0]) ?_
        simp only [if_neg no_ft]
        refine Ev.bind htp ?_
        refine Ev.bind (eqPodS_ev _ hlp) ?_
        simp only [if_true]
        refine Ev.bind hto ?_
        refine Ev.bind (eqSeriesS_ev _ hlen (fun s hs => (hf s hs).2.2)) ?_
        simp only [if_true]
        exact Ev.now _
theorem big_of {l : List S137} (h : okL 56 ok137 l) : l.length ≤ 140737488351232 ∧ ∀ s ∈ l, bigS s := by
  have e : reachBytes = 140737488351232 := rfl
  refine ⟨by have := h.1; rw [e] at this; omega, fun s hs => ?_⟩
  obtain ⟨h1, h2, h3, _⟩ := h.2 s hs
  unfold okS at h1 h2
  rw [e] at h1 h2 h3
  exact ⟨h1, h2, by omega⟩
theorem bigP_of {l : List S144} (h : okL 40 ok144 l) : l.length ≤ 140737488351232 ∧ ∀ s ∈ l, bigP s := by
  have e : reachBytes = 140737488351232 := rfl
  refine ⟨by have := h.1; rw [e] at this; omega, fun s hs => ?_⟩
  obtain ⟨h1, _⟩ := h.2 s hs
  unfold okS at h1
  rw [e] at h1
  exact h1
theorem tallyOf_true (ps : List S144) (l : List S137) (a : ByteArray) (now : Int) (x : S56) (hp : okL 40 ok144 ps) (h : okL 56 ok137 l) (_ : okS a) (_ : okI .i64 now) (_ : ok56 x) : ∃ k, laws_FnExactTallyOf.f k ps l a now x.f0 x.f1 x.f2 = some true := tallyOf_pure ps (bigP_of hp).1 (bigP_of hp).2 l (big_of h).1 (big_of h).2 a now _ _ _
end Go.Proofs.Ytplekidnlofioaa.Q
