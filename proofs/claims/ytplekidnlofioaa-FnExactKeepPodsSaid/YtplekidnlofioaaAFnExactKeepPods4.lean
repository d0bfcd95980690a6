/- Part 4 of the proof of FnExactKeepPods: contracts of the functions that it reaches, printed and by hand, and what they come to in plain Lean. -/
import Derived.Test.YtplekidnlofioaaAFnExactKeepPods3
namespace Go.Proofs.Ytplekidnlofioaa.Q
open Go.RowKit Go.Proofs.YtplekidnlofioaaW.PrintWords Go.Proofs.YtplekidnlofioaaW.PrintLast
theorem strOne (v : Int) : (strOfNums [v]).size = 1 := by simp [strOfNums, ByteArray.size]
theorem markText_l0 (n : Nat) : ∀ (x : Int) (b : ByteArray), x.toNat ≤ n → x ≤ 4611686018427387904 → b.size + n ≤ 9223372036854775800 → ∃ t, Ev (fun k => laws_markText.l0 k x b) t := by
  induction n with
  | zero =>
    intro x b h _ hb
    refine ⟨(⟨#[109]⟩ : ByteArray) ++ b, Ev.step (fun k => by rw [laws_markText.l0]) ?_⟩
    have h1 : ¬ x > 0 := by omega
    have h2 : 1 + b.size ≤ 9223372036854775807 := by omega
    simp only [if_neg h1, if_pos h2]
    exact Ev.now _
  | succ n ih =>
    intro x b h hx hb
    by_cases c : x > 0
    · have e : wrap64 (Int.tdiv x 10) = x / 10 := by rw [Int.tdiv_eq_ediv_of_nonneg (by omega)]; unfold wrap64; omega
      have h2 : (strOfNums [(wrap64 (48 + (Int.tmod x 10))) % 256]).size + b.size ≤ 9223372036854775807 := by rw [strOne]; omega
      obtain ⟨t, ht⟩ := ih (x / 10) (strOfNums [(wrap64 (48 + (Int.tmod x 10))) % 256] ++ b) (by omega) (by omega) (by rw [ByteArray.size_append, strOne]; omega)
      refine ⟨t, Ev.step (fun k => by rw [laws_markText.l0]) ?_⟩
      simp only [if_pos c, Option.bind_some, if_pos h2, e]
      exact ht
    · refine ⟨(⟨#[109]⟩ : ByteArray) ++ b, Ev.step (fun k => by rw [laws_markText.l0]) ?_⟩
      have h2 : 1 + b.size ≤ 9223372036854775807 := by omega
      simp only [if_neg c, if_pos h2]
      exact Ev.now _
theorem markText_some (a : Int) (h : a ≤ 4611686018427387904) : ∃ t, Ev (fun k => laws_markText.f k a) t := by
  by_cases c : a ≤ 0
  · exact ⟨(⟨#[109, 48]⟩ : ByteArray), by unfold laws_markText.f; simp only [if_pos c]; exact Ev.now _⟩
  · obtain ⟨t, ht⟩ := markText_l0 a.toNat a ⟨#[]⟩ (Nat.le_refl _) h (by show 0 + a.toNat ≤ _; omega)
    exact ⟨t, by unfold laws_markText.f; simp only [if_neg c]; exact ht⟩
open Classical in
noncomputable def markT (a : Int) : ByteArray := if h : ∃ t, Ev (fun k => laws_markText.f k a) t then h.choose else ⟨#[]⟩
theorem markT_ev (a : Int) (h : a ≤ 4611686018427387904) : Ev (fun k => laws_markText.f k a) (markT a) := by
  have h2 := markText_some a h
  unfold markT
  rw [dif_pos h2]
  exact h2.choose_spec
def markP : Int → List S37 → List S37
  | _, [] => []
  | a, _ :: r => ⟨a, a + 1⟩ :: markP (a + 2) r
theorem markPointS_l0_ev : ∀ (suf pre : List S37) (a : Int), 0 ≤ a → a + 2 * suf.length ≤ 4611686018427387904 → pre.length + suf.length ≤ 4611686018427387900 → Ev (fun k => laws_markPointS.l0 k (pre ++ suf) a (pre.length : Int)) (a + 2 * suf.length, pre ++ markP a suf) := by
  intro suf
  induction suf with
  | nil =>
    intro pre a _ _ _
    refine Ev.step (fun k => by rw [laws_markPointS.l0]) ?_
    simp only [if_neg (not_lt_end pre), markP]
    have : a + 2 * (([] : List S37).length : Int) = a := by simp
    rw [this]
    exact Ev.now _
  | cons p suf ih =>
    intro pre a h0 h1 h2
    rw [List.length_cons] at h1 h2
    have hr := ih (pre ++ [⟨a, a + 1⟩]) (a + 2) (by omega) (by omega) (by rw [List.length_append, List.length_singleton]; omega)
    rw [List.length_append, List.length_singleton, List.append_assoc, List.append_assoc] at hr
    refine Ev.step (fun k => by rw [laws_markPointS.l0]) ?_
    have hw := wrapn pre.length (by omega)
    have hw1 : wrap64 (a + 1) = a + 1 := by unfold wrap64; omega
    have hw2 : wrap64 ((a + 1) + 1) = a + 2 := by unfold wrap64; omega
    have e : a + 2 + 2 * (suf.length : Int) = a + 2 * ((p :: suf).length : Int) := by rw [List.length_cons]; omega
    simp only [if_pos (lt_mid _ _ _), if_pos (nn _), hw, hw1, hw2, Int.toNat_natCast, rdP_mid, set_mid, Option.bind_some]
    rw [e] at hr
    exact hr
theorem markPointS_ev (l : List S37) (a : Int) (h0 : 0 ≤ a) (h1 : a + 2 * l.length ≤ 4611686018427387904) : Ev (fun k => laws_markPointS.f k l a) (a + 2 * l.length, markP a l) := markPointS_l0_ev l [] a h0 h1 (by simp; omega)
theorem heldPointS_l0_ev (xs : List S37) : ∀ (suf pre : List S37) (a : Int), xs = pre ++ markP a suf → 0 ≤ a → a + 2 * suf.length ≤ 4611686018427387904 → pre.length + suf.length ≤ 4611686018427387900 → Ev (fun k => laws_heldPointS.l0 k xs a (pre.length : Int)) (a + 2 * suf.length) := by
  intro suf
  induction suf with
  | nil =>
    intro pre a h _ _ _
    subst h
    refine Ev.step (fun k => by rw [laws_heldPointS.l0]) ?_
    have hlt : ¬ ((pre.length : Int) < ((pre ++ markP a []).length : Int)) := by simp [markP]
    simp only [if_neg hlt]
    have : a + 2 * (([] : List S37).length : Int) = a := by simp
    rw [this]
    exact Ev.now _
  | cons p suf ih =>
    intro pre a h h0 h1 h2
    rw [List.length_cons] at h1 h2
    have hr := ih (pre ++ [⟨a, a + 1⟩]) (a + 2) (by rw [h]; simp [markP]) (by omega) (by omega) (by rw [List.length_append, List.length_singleton]; omega)
    rw [List.length_append, List.length_singleton] at hr
    refine Ev.step (fun k => by rw [laws_heldPointS.l0]) ?_
    have hw := wrapn pre.length (by omega)
    have hw1 : wrap64 (a + 1) = a + 1 := by unfold wrap64; omega
    have hw2 : wrap64 ((a + 1) + 1) = a + 2 := by unfold wrap64; omega
    have e : a + 2 + 2 * (suf.length : Int) = a + 2 * ((p :: suf).length : Int) := by rw [List.length_cons]; omega
    have hlt : (pre.length : Int) < (xs.length : Int) := by rw [h]; exact lt_mid _ _ _
    have hrd : rd_T37 xs (pre.length : Int) = ⟨a, a + 1⟩ := by rw [h]; exact rdP_mid _ _ _
    simp only [if_pos hlt, if_pos (nn _), hrd, hw, hw1, hw2, if_true]
    rw [e] at hr
    exact hr
theorem heldPointS_ev (l : List S37) (a : Int) (h0 : 0 ≤ a) (h1 : a + 2 * l.length ≤ 4611686018427387904) : Ev (fun k => laws_heldPointS.f k (markP a l) a) (a + 2 * l.length) := heldPointS_l0_ev _ l [] a rfl h0 h1 (by simp; omega)
def mkN : List S81 → Int
  | [] => 0
  | s :: r => 2 + 2 * s.f2.length + mkN r
theorem mkN_nn : ∀ l, 0 ≤ mkN l
  | [] => Int.le_refl _
  | s :: r => by have := mkN_nn r; simp only [mkN]; omega
theorem mkN_app : ∀ (a b : List S81), mkN (a ++ b) = mkN a + mkN b
  | [], b => by simp [mkN]
  | s :: r, b => by simp only [List.cons_append, mkN, mkN_app r b]; omega
noncomputable def markS : Int → List S81 → List S81
  | _, [] => []
  | a, s :: r => ⟨markT a, markT (a + 1), markP (a + 2) s.f2⟩ :: markS (a + 2 + 2 * s.f2.length) r
theorem markS_len : ∀ (r : List S81) (a : Int), (markS a r).length = r.length
  | [], _ => rfl
  | _ :: r, a => by simp only [markS, List.length_cons, markS_len r]
theorem markS_app : ∀ (r t : List S81) (a : Int), markS a (r ++ t) = markS a r ++ markS (a + mkN r) t
  | [], t, a => by simp [markS, mkN]
  | s :: r, t, a => by
    simp only [List.cons_append, markS, mkN, markS_app r t]
    rw [show a + 2 + 2 * (s.f2.length : Int) + mkN r = a + (2 + 2 * (s.f2.length : Int) + mkN r) from by omega]
theorem heldSeriesS_l0_ev (xs : List S81) : ∀ (suf pre : List S81) (a : Int), xs = pre ++ markS a suf → 0 ≤ a → a + mkN suf ≤ 4611686018427387000 → pre.length + suf.length ≤ 4611686018427387900 → Ev (fun k => laws_heldSeriesS.l0 k xs a (pre.length : Int)) (a + mkN suf) := by
  intro suf
  induction suf with
  | nil =>
    intro pre a h _ _ _
    subst h
    refine Ev.step (fun k => by rw [laws_heldSeriesS.l0]) ?_
    have hlt : ¬ ((pre.length : Int) < ((pre ++ markS a []).length : Int)) := by simp [markS]
    simp only [if_neg hlt, mkN, Int.add_zero]
    exact Ev.now _
  | cons s suf ih =>
    intro pre a h h0 h1 h2
    have hn := mkN_nn suf
    simp only [mkN] at h1 ⊢
    rw [List.length_cons] at h2
    have hr := ih (pre ++ [⟨markT a, markT (a + 1), markP (a + 2) s.f2⟩]) (a + 2 + 2 * s.f2.length) (by rw [h]; simp [markS]) (by omega) (by omega) (by rw [List.length_append, List.length_singleton]; omega)
    rw [List.length_append, List.length_singleton] at hr
    refine Ev.step (fun k => by rw [laws_heldSeriesS.l0]) ?_
    have hw := wrapn pre.length (by omega)
    have hw1 : wrap64 (a + 1) = a + 1 := by unfold wrap64; omega
    have hw2 : wrap64 ((a + 1) + 1) = a + 2 := by unfold wrap64; omega
    have hlt : (pre.length : Int) < (xs.length : Int) := by rw [h]; exact lt_mid _ _ _
    have hrd : rd_T81 xs (pre.length : Int) = ⟨markT a, markT (a + 1), markP (a + 2) s.f2⟩ := by rw [h]; exact rdS_mid _ _ _
    simp only [if_pos hlt, if_pos (nn _), hrd, hw, hw1, hw2]
    refine Ev.bind (markT_ev a (by omega)) ?_
    simp only [if_true]
    refine Ev.bind (markT_ev (a + 1) (by omega)) ?_
    simp only [if_true]
    refine Ev.bind (heldPointS_ev s.f2 (a + 2) (by omega) (by omega)) ?_
    have hneg : ¬ (a + 2 + 2 * (s.f2.length : Int) < 0) := by omega
    simp only [if_neg hneg]
    rw [show a + (2 + 2 * (s.f2.length : Int) + mkN suf) = a + 2 + 2 * (s.f2.length : Int) + mkN suf from by omega]
    exact hr
theorem heldSeriesS_ev (l : List S81) (a : Int) (h0 : 0 ≤ a) (h1 : a + mkN l ≤ 4611686018427387000) (hl : l.length ≤ 4611686018427387900) : Ev (fun k => laws_heldSeriesS.f k (markS a l) a) (a + mkN l) := heldSeriesS_l0_ev _ l [] a rfl h0 h1 (by simpa using hl)
end Go.Proofs.Ytplekidnlofioaa.Q
namespace Go.Proofs.Ytplekidnlofioaa.Q
open Go.RowKit Go.Proofs.YtplekidnlofioaaW.PrintWords Go.Proofs.YtplekidnlofioaaW.PrintLast Go.Proofs.YtplekidnlofioaaW.PrintMore
attribute [local go_sem] max2_int min2_int max_two min_two max_three min_three max_four min_four
set_option linter.unusedVariables false
set_option linter.unusedSimpArgs false
theorem rounds_of {α : Type} {f : Nat → Option α} {r : α} (h : Ev f r) : ∃ k, f k = some r := Ev.rounds h
theorem wrap_eq (x y : Int) (h : y = x + 1) (h0 : 0 ≤ x) (h1 : x ≤ 4611686018427387904) : IntKind.i64.wrap (x + 1) = y := (i64_w _).trans (by rw [h]; unfold wrap64; omega)
theorem kt {p : Prop} (h : p := by repeat (first | (with_reducible first | exact HK.out | apply Kept.alloc | apply Kept.drewN | apply Kept.drew) | exact HK.out)) : p := h
set_option maxHeartbeats 8000000 in
set_option maxRecDepth 100000 in
theorem laws_markSeriesS_calls (P0_ : Nat → Prop) (u : Value) (l : List S81) (a : Int) (w0 w : World) (hB : Below w0.heap.size w0 w) (ho : Kd.S k81 81 w w0.heap.size P0_ u l) (h0 : 0 ≤ a) (h1 : a + mkN l ≤ 4611686018427387000) (hl : l.length ≤ 4611686018427387000) :
    Calls Try.prog 25 #[u, .int .i64 a] w fun e w' => e = .returned (.int .i64 (a + mkN l)) ∧ Kd.S k81 81 w' w0.heap.size (fun k_ => P0_ k_ ∨ w.heap.size ≤ k_) u (markS a l) ∧ Below w0.heap.size w0 w' ∧ Kept w w' P0_ := by
  have HO0 := ak (show Kd.S k81 81 w w0.heap.size (fun k_ => (P0_ k_ ∨ w.heap.size ≤ k_)) u l from Kd.S_mono ho (fun k_ hk => .inl hk))
  have HK := ak (Kept.refl w P0_)
  have HW0 := ak hB.size
  have HB := ak hB
  have AR := ak (show 0 ≤ a ∧ a + mkN l ≤ 4611686018427387000 ∧ l.length ≤ 4611686018427387000 from ⟨h0, h1, hl⟩)
  clear hB ho h0 h1 hl
  go_enter Try.func25, Try.ntmps25
  go_wp2
  go_loopg [1, 5] l.length (fun kq v1 v5 w' => ∃ (pre suf : List S81) (x1 x5 : Int), v1 = .int .i64 x1 ∧ v5 = .int .i64 x5 ∧ Aside0 (l = pre ++ suf ∧ x1 = a + mkN pre ∧ x5 = (pre.length : Int) ∧ suf.length ≤ kq) ∧ Aside0 (Kd.S k81 81 w' w0.heap.size (fun k_ => (P0_ k_ ∨ w.heap.size ≤ k_)) u (markS a pre ++ suf)) ∧ Aside0 (Kept w w' P0_) ∧ Aside0 (Below w0.heap.size w0 w'))
  case atStart => exact ⟨[], l, a, 0, rfl, rfl, ⟨rfl, by simp [mkN], rfl, Nat.le_refl _⟩, ⟨ks HO0⟩, ⟨kt⟩, ⟨bl⟩⟩
  case round =>
    obtain ⟨pre, suf, x1, x5, rfl, rfl, HA, HO, HK, HB⟩ := hrel
    cases suf with
    | nil =>
      obtain ⟨hl, e1, e5, _⟩ := HA.out
      rw [List.append_nil] at hl
      subst hl
      rw [List.append_nil] at HO
      obtain ⟨Ao, co, eo⟩ := Kd.S_slice HO.out
      have c3b0 : decide (x5 < ((markS a l).length : Int)) = false := decide_eq_false (by rw [markS_len, e5]; omega)
      subst eo
      clear e5
      go_wp2
      go_ret
      exact ⟨by first | rfl | (rw [e1]; rfl), ks HO, bl, kt⟩
    | cons s suf =>
      obtain ⟨hl, e1, e5, hk⟩ := HA.out
      obtain ⟨a0, a1, a2⟩ := AR.out
      have hn1 := mkN_nn pre
      have hn2 := mkN_nn suf
      have hn3 : mkN l = mkN pre + (2 + 2 * (s.f2.length : Int) + mkN suf) := by rw [hl, mkN_app]; rfl
      have hl3 : l.length = pre.length + (suf.length + 1) := by rw [hl, List.length_append, List.length_cons]
      obtain ⟨k1, hk1⟩ := rounds_of (markT_ev x1 (by omega))
      obtain ⟨x2, hx2⟩ : ∃ y, y = x1 + 1 := ⟨_, rfl⟩
      obtain ⟨x3, hx3⟩ : ∃ y, y = x2 + 1 := ⟨_, rfl⟩
      obtain ⟨x6, hx6⟩ : ∃ y, y = x5 + 1 := ⟨_, rfl⟩
      obtain ⟨k2, hk2⟩ := rounds_of (markT_ev x2 (by omega))
      obtain ⟨k3, hk3⟩ := rounds_of (markPointS_ev s.f2 x3 (by omega) (by omega))
      obtain ⟨x4, hx4⟩ : ∃ y, y = x3 + 2 * (s.f2.length : Int) := ⟨_, rfl⟩
      rw [← hx4] at hk3
      have w12 := wrap_eq x1 x2 hx2 (by omega) (by omega)
      have w23 := wrap_eq x2 x3 hx3 (by omega) (by omega)
      have w56 := wrap_eq x5 x6 hx6 (by omega) (by omega)
      have K1 := ak hk1
      have K2 := ak hk2
      have K3 := ak hk3
      have HN := ak (show x4 = a + mkN (pre ++ [s]) ∧ x6 = ((pre ++ [s]).length : Int) ∧ l = (pre ++ [s]) ++ suf from ⟨by rw [mkN_app]; simp only [mkN]; omega, by rw [List.length_append, List.length_singleton]; omega, by rw [hl]; simp⟩)
      have HL := ak (show markS a pre ++ ⟨markT x1, markT x2, markP x3 s.f2⟩ :: suf = markS a (pre ++ [s]) ++ suf from by rw [markS_app]; simp only [markS, List.append_assoc, List.singleton_append]; rw [← e1, ← hx2, show x1 + 2 = x3 from by omega])
      have htn : x5.toNat = (markS a pre).length := by rw [markS_len]; omega
      have hg1 : ∀ y : S81, (markS a pre ++ y :: suf).getD x5.toNat z81 = y := fun y => by rw [htn]; exact getD_mid _ _ _ _
      have hg2 : ∀ y z : S81, (markS a pre ++ y :: suf).set x5.toNat z = markS a pre ++ z :: suf := fun y z => by rw [htn]; exact set_mid _ _ _ _
      have hll : ∀ y : S81, (markS a pre ++ y :: suf).length = l.length := fun y => by rw [List.length_append, List.length_cons, markS_len, hl3]
      have G1 := ak hg1
      have G2 := ak hg2
      obtain ⟨n, hn⟩ : ∃ n, n = l.length := ⟨_, rfl⟩
      have GL := ak (show ∀ y : S81, (markS a pre ++ y :: suf).length = n from fun y => (hll y).trans hn.symm)
      have pz : 0 ≤ x5 := by omega
      have qz : x5 < (n : Int) := by omega
      have HM := ak hk
      obtain ⟨g, cap, eo, gb, gl_, cl, HG⟩ := Kd.S_form HO.out (by rw [hll]; omega)
      rw [hll, ← hn] at eo
      have GB := ak gb
      subst eo
      have PZ := ak pz
      have QZ := ak qz
      have c3b0 : decide (x5 < (n : Int)) = true := decide_eq_true qz
      replace pz := eq_true pz
      replace qz := eq_true qz
      clear hk1 hk2 hk3 hx4 hx2 hx3 hx6 e1 e5 hk hl hl3 hn1 hn2 hn3 htn hg1 hg2 hll hn a0 a1 a2 gb gl_ cl HG
      go_wp2_with (first | ((with_reducible refine gate_dst (N := 15) rfl ?_); refine gl (some 15) Try.func82 #[.int .i64 x1] ?_; (refine (laws_markText.calls _ x1 (markT x1) _ K1.out).mono ?_); rintro e w1 ⟨rfl, hb⟩; refine ⟨_, rfl, ?_⟩; replace HO := ak (Kd.S_below (ks HO) hb); replace HK := ak (Kept.below (S := P0_) kt hb); replace HB := ak (below_step bl hb); clear hb; obtain ⟨oki, c_, hcl, hM, hcc, hfr, hoki, hH⟩ := Kd.S_elem HO.out z81 x5 PZ.out QZ.out; rw [G1.out] at hM; obtain ⟨v2, rfl, hR⟩ := k81_openM hM; have hx_ : w1.cell? ⟨g, x5.toNat * 3, none⟩ = some (.string s.f0) := hcc 0 _ rfl; have hf_ : w1.frozen? ⟨g, x5.toNat * 3, none⟩ = false := hfr 0; have HS := Kd.S_seg (okg := fun _ => False) (Kd.H_mono hH (fun k hk => ⟨hk, fun h => h⟩)) PZ.out QZ.out (seg := [.string (markT x1)]) (j := 0) (show 0 + 1 ≤ 3 from by decide) (x' := (⟨markT x1, s.f1, s.f2⟩ : S81)) (k81_mkM _ _ _ (⟨markT x1, s.f1, s.f2⟩ : S81) hR) (fun k hk => .inl hk) (fun k hk => hk.elim); clear hcl hcc hfr hM hH hoki hR) | ((with_reducible refine gate_store (t := 9) (p := 17) rfl ?_); refine store_event (t := 9) (p := 17) (v := ?vo_w) (w1 := (w1.setCell ⟨g, x5.toNat * 3, none⟩ (.string (markT x1)))) ?hg ?ho ?hn ?hr ?_; (case ho => rfl); (case hg => rfl); (case hn => rfl); (case hr => first | (go_simp; done) | (go_simp; rfl)); intro w2 hw; have hg : w1.grownBy w2 (some g) := (by rw [hw]; exact HS.2); have hp_ : Kd.S k81 81 w2 w0.heap.size (fun k_ => (P0_ k_ ∨ w.heap.size ≤ k_)) (.slice (some ⟨g, 0, none⟩) n cap) (markS a pre ++ (⟨markT x1, s.f1, s.f2⟩ : S81) :: suf) := (by rw [hw, ← G2.out]; exact HS.1); clear HS hx_ hf_; replace HK := ak (Kept.of_grown (S := P0_) hg kt (fun k_ e_ => (Kd.S_R HO.out).1 k_ e_)); replace HB := ak (by rw [hw]; exact below_set HB.out GB.out : Below w0.heap.size w0 w2); replace HO := ak hp_; clear hg hw hp_) | ((with_reducible refine gate_dst (N := 23) rfl ?_); refine gl (some 23) Try.func82 #[.int .i64 x2] ?_; (refine (laws_markText.calls _ x2 (markT x2) _ K2.out).mono ?_); rintro e w3 ⟨rfl, hb⟩; refine ⟨_, rfl, ?_⟩; replace HO := ak (Kd.S_below (ks HO) hb); replace HK := ak (Kept.below (S := P0_) kt hb); replace HB := ak (below_step bl hb); clear hb; obtain ⟨oki, c_, hcl, hM, hcc, hfr, hoki, hH⟩ := Kd.S_elem HO.out z81 x5 PZ.out QZ.out; rw [G1.out] at hM; obtain ⟨v2, rfl, hR⟩ := k81_openM hM; have hx_ : w3.cell? ⟨g, x5.toNat * 3 + 1, none⟩ = some (.string s.f1) := hcc 1 _ rfl; have hf_ : w3.frozen? ⟨g, x5.toNat * 3 + 1, none⟩ = false := hfr 1; have HS := Kd.S_seg (okg := fun _ => False) (Kd.H_mono hH (fun k hk => ⟨hk, fun h => h⟩)) PZ.out QZ.out (seg := [.string (markT x2)]) (j := 1) (show 1 + 1 ≤ 3 from by decide) (x' := (⟨markT x1, markT x2, s.f2⟩ : S81)) (k81_mkM _ _ _ (⟨markT x1, markT x2, s.f2⟩ : S81) hR) (fun k hk => .inl hk) (fun k hk => hk.elim); clear hcl hcc hfr hM hH hoki hR) | ((with_reducible refine gate_store (t := 9) (p := 25) rfl ?_); refine store_event (t := 9) (p := 25) (v := ?vo_x) (w1 := (w3.setCell ⟨g, x5.toNat * 3 + 1, none⟩ (.string (markT x2)))) ?hg ?ho ?hn ?hr ?_; (case ho => rfl); (case hg => rfl); (case hn => rfl); (case hr => first | (go_simp; done) | (go_simp; rfl)); intro w4 hw; have hg : w3.grownBy w4 (some g) := (by rw [hw]; exact HS.2); have hp_ : Kd.S k81 81 w4 w0.heap.size (fun k_ => (P0_ k_ ∨ w.heap.size ≤ k_)) (.slice (some ⟨g, 0, none⟩) n cap) (markS a pre ++ (⟨markT x1, markT x2, s.f2⟩ : S81) :: suf) := (by rw [hw, ← G2.out]; exact HS.1); clear HS hx_ hf_; replace HK := ak (Kept.of_grown (S := P0_) hg kt (fun k_ e_ => (Kd.S_R HO.out).1 k_ e_)); replace HB := ak (by rw [hw]; exact below_set HB.out GB.out : Below w0.heap.size w0 w4); replace HO := ak hp_; clear hg hw hp_; obtain ⟨oki, c_, hcl, hM, hcc, hoki, hH⟩ := Kd.S_lend HO.out z81 x5 PZ.out QZ.out; rw [G1.out] at hM; obtain ⟨v2, rfl, hR⟩ := k81_openM hM; obtain ⟨A2, c2, ev⟩ := Kd.R_slice hR; subst ev; have hx2 : w4.cell? ⟨g, x5.toNat * 3 + 2, none⟩ = some (.slice A2 s.f2.length c2) := hcc 2 _ rfl; have HR2 := ak hR; have HH2 := ak hH; have HI2 := ak hoki; clear hcl hcc hM hR hH hoki) | ((with_reducible refine gate_dst (N := 34) rfl ?_); refine gl (some 34) Try.func83 #[.slice A2 s.f2.length c2, .int .i64 x3] ?_; (refine (laws_markPointS.calls _ oki _ s.f2 x3 x4 (markP x3 s.f2) w0 _ ?s1 ?s2 K3.out).mono ?_); (case s1 => exact bl); (case s2 => exact HR2.out); rintro e w5 ⟨rfl, hR5, hb5, hk5⟩; refine ⟨_, rfl, ?_⟩; have hS5 := Kd.H_back (Kd.H_kept (Kd.H_widen HH2.out) hk5 (fun k hk hn hs => hn (.inl hs))) (k81_mkM _ _ _ (⟨markT x1, markT x2, markP x3 s.f2⟩ : S81) hR5) (fun k hk => hk.elim .inl (fun h2 => .inr ⟨.inr (Nat.le_trans HK.out.1 h2), h2⟩)); rw [G2.out] at hS5; replace HK := ak (Kept.then_ (S := P0_) kt hk5 (fun k hs => (HI2.out k hs).1)); replace HB := ak hb5; replace HO := ak hS5; clear hS5 hR5 hb5 hk5 HR2 HH2 HI2 hx2))
      go_roundg suf.length
      case measure => have := HM.out; simp only [List.length_cons] at this; omega
      case rel => exact ⟨pre ++ [s], suf, x4, x6, rfl, rfl, ⟨⟨HN.out.2.2, HN.out.1, HN.out.2.1, Nat.le_refl _⟩⟩, ⟨by rw [← HL.out]; exact ks HO⟩, ⟨kt⟩, ⟨bl⟩⟩
end Go.Proofs.Ytplekidnlofioaa.Q
