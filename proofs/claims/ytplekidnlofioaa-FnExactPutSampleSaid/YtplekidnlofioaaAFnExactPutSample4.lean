/- Part 4 of the proof of FnExactPutSample: contracts of the functions that it reaches, printed and by hand, and what they come to in plain Lean. -/
import Derived.Test.YtplekidnlofioaaAFnExactPutSample3
import Derived.Test.YtplekidnlofioaaAFnExactPutSample2
import Derived.Lib.SliceRun
namespace Go.Proofs.Ytplekidnlofioaa.Q
open Go.RowKit Go.Proofs.YtplekidnlofioaaW.PrintWords Go.Proofs.YtplekidnlofioaaW.PrintLast
theorem strOne (v : Int) : (strOfNums [v]).size = 1 := by simp [strOfNums, ByteArray.size]
theorem markText_l0 (n : Nat) : ∀ (x : Int) (b : ByteArray), x.toNat ≤ n → x ≤ 4611686018427387904 → b.size + n ≤ 9223372036854775800 → ∃ t, Ev (fun k => laws_markText.l0 k x b) t := by
  induction n with
  | zero =>
    intro x b h _ hb
    refine ⟨(⟨#[109]⟩ : ByteArray) ++ b, Ev.step (fun k => by rw [laws_markText.l0]) ?_⟩
    have h1 : ¬ x > 0 := by omega
    have h2 : 1 + b.size ≤ 9223372036854775807 := by omega
    simp only [if_neg h1, if_pos h2]
    exact Ev.now _
  | succ n ih =>
    intro x b h hx hb
    by_cases c : x > 0
    · have e : wrap64 (Int.tdiv x 10) = x / 10 := by rw [Int.tdiv_eq_ediv_of_nonneg (by omega)]; unfold wrap64; omega
      have h2 : (strOfNums [(wrap64 (48 + (Int.tmod x 10))) % 256]).size + b.size ≤ 9223372036854775807 := by rw [strOne]; omega
      obtain ⟨t, ht⟩ := ih (x / 10) (strOfNums [(wrap64 (48 + (Int.tmod x 10))) % 256] ++ b) (by omega) (by omega) (by rw [ByteArray.size_append, strOne]; omega)
      refine ⟨t, Ev.step (fun k => by rw [laws_markText.l0]) ?_⟩
      simp only [if_pos c, Option.bind_some, if_pos h2, e]
      exact ht
    · refine ⟨(⟨#[109]⟩ : ByteArray) ++ b, Ev.step (fun k => by rw [laws_markText.l0]) ?_⟩
      have h2 : 1 + b.size ≤ 9223372036854775807 := by omega
      simp only [if_neg c, if_pos h2]
      exact Ev.now _
theorem markText_some (a : Int) (h : a ≤ 4611686018427387904) : ∃ t, Ev (fun k => laws_markText.f k a) t := by
  by_cases c : a ≤ 0
  · exact ⟨(⟨#[109, 48]⟩ : ByteArray), by unfold laws_markText.f; simp only [if_pos c]; exact Ev.now _⟩
  · obtain ⟨t, ht⟩ := markText_l0 a.toNat a ⟨#[]⟩ (Nat.le_refl _) h (by show 0 + a.toNat ≤ _; omega)
    exact ⟨t, by unfold laws_markText.f; simp only [if_neg c]; exact ht⟩
open Classical in
noncomputable def markT (a : Int) : ByteArray := if h : ∃ t, Ev (fun k => laws_markText.f k a) t then h.choose else ⟨#[]⟩
theorem markT_ev (a : Int) (h : a ≤ 4611686018427387904) : Ev (fun k => laws_markText.f k a) (markT a) := by
  have h2 := markText_some a h
  unfold markT
  rw [dif_pos h2]
  exact h2.choose_spec
def markP : Int → List S37 → List S37
  | _, [] => []
  | a, _ :: r => ⟨a, a + 1⟩ :: markP (a + 2) r
theorem markP_len : ∀ (r : List S37) (a : Int), (markP a r).length = r.length
  | [], _ => rfl
  | _ :: r, a => by simp only [markP, List.length_cons, markP_len r]
theorem markPointS_l0_ev : ∀ (suf pre : List S37) (a : Int), 0 ≤ a → a + 2 * suf.length ≤ 4611686018427387904 → pre.length + suf.length ≤ 4611686018427387900 → Ev (fun k => laws_markPointS.l0 k (pre ++ suf) a (pre.length : Int)) (a + 2 * suf.length, pre ++ markP a suf) := by
  intro suf
  induction suf with
  | nil =>
    intro pre a _ _ _
    refine Ev.step (fun k => by rw [laws_markPointS.l0]) ?_
    simp only [if_neg (not_lt_end pre), markP]
    have : a + 2 * (([] : List S37).length : Int) = a := by simp
    rw [this]
    exact Ev.now _
  | cons p suf ih =>
    intro pre a h0 h1 h2
    rw [List.length_cons] at h1 h2
    have hr := ih (pre ++ [⟨a, a + 1⟩]) (a + 2) (by omega) (by omega) (by rw [List.length_append, List.length_singleton]; omega)
    rw [List.length_append, List.length_singleton, List.append_assoc, List.append_assoc] at hr
    refine Ev.step (fun k => by rw [laws_markPointS.l0]) ?_
    have hw := wrapn pre.length (by omega)
    have hw1 : wrap64 (a + 1) = a + 1 := by unfold wrap64; omega
    have hw2 : wrap64 ((a + 1) + 1) = a + 2 := by unfold wrap64; omega
    have e : a + 2 + 2 * (suf.length : Int) = a + 2 * ((p :: suf).length : Int) := by rw [List.length_cons]; omega
    simp only [if_pos (lt_mid _ _ _), if_pos (nn _), hw, hw1, hw2, Int.toNat_natCast, rdP_mid, set_mid, Option.bind_some]
    rw [e] at hr
    exact hr
theorem markPointS_ev (l : List S37) (a : Int) (h0 : 0 ≤ a) (h1 : a + 2 * l.length ≤ 4611686018427387904) : Ev (fun k => laws_markPointS.f k l a) (a + 2 * l.length, markP a l) := markPointS_l0_ev l [] a h0 h1 (by simp; omega)
theorem heldPointS_l0_ev (xs : List S37) : ∀ (suf pre : List S37) (a : Int), xs = pre ++ markP a suf → 0 ≤ a → a + 2 * suf.length ≤ 4611686018427387904 → pre.length + suf.length ≤ 4611686018427387900 → Ev (fun k => laws_heldPointS.l0 k xs a (pre.length : Int)) (a + 2 * suf.length) := by
  intro suf
  induction suf with
  | nil =>
    intro pre a h _ _ _
    subst h
    refine Ev.step (fun k => by rw [laws_heldPointS.l0]) ?_
    have hlt : ¬ ((pre.length : Int) < ((pre ++ markP a []).length : Int)) := by simp [markP]
    simp only [if_neg hlt]
    have : a + 2 * (([] : List S37).length : Int) = a := by simp
    rw [this]
    exact Ev.now _
  | cons p suf ih =>
    intro pre a h h0 h1 h2
    rw [List.length_cons] at h1 h2
    have hr := ih (pre ++ [⟨a, a + 1⟩]) (a + 2) (by rw [h]; simp [markP]) (by omega) (by omega) (by rw [List.length_append, List.length_singleton]; omega)
    rw [List.length_append, List.length_singleton] at hr
    refine Ev.step (fun k => by rw [laws_heldPointS.l0]) ?_
    have hw := wrapn pre.length (by omega)
    have hw1 : wrap64 (a + 1) = a + 1 := by unfold wrap64; omega
    have hw2 : wrap64 ((a + 1) + 1) = a + 2 := by unfold wrap64; omega
    have e : a + 2 + 2 * (suf.length : Int) = a + 2 * ((p :: suf).length : Int) := by rw [List.length_cons]; omega
    have hlt : (pre.length : Int) < (xs.length : Int) := by rw [h]; exact lt_mid _ _ _
    have hrd : rd_T37 xs (pre.length : Int) = ⟨a, a + 1⟩ := by rw [h]; exact rdP_mid _ _ _
    simp only [if_pos hlt, if_pos (nn _), hrd, hw, hw1, hw2, if_true]
    rw [e] at hr
    exact hr
theorem heldPointS_ev (l : List S37) (a : Int) (h0 : 0 ≤ a) (h1 : a + 2 * l.length ≤ 4611686018427387904) : Ev (fun k => laws_heldPointS.f k (markP a l) a) (a + 2 * l.length) := heldPointS_l0_ev _ l [] a rfl h0 h1 (by simp; omega)
def mkN : List S81 → Int
  | [] => 0
  | s :: r => 2 + 2 * s.f2.length + mkN r
theorem mkN_nn : ∀ l, 0 ≤ mkN l
  | [] => Int.le_refl _
  | s :: r => by have := mkN_nn r; simp only [mkN]; omega
theorem mkN_app : ∀ (a b : List S81), mkN (a ++ b) = mkN a + mkN b
  | [], b => by simp [mkN]
  | s :: r, b => by simp only [List.cons_append, mkN, mkN_app r b]; omega
noncomputable def markS : Int → List S81 → List S81
  | _, [] => []
  | a, s :: r => ⟨markT a, markT (a + 1), markP (a + 2) s.f2⟩ :: markS (a + 2 + 2 * s.f2.length) r
theorem markS_len : ∀ (r : List S81) (a : Int), (markS a r).length = r.length
  | [], _ => rfl
  | _ :: r, a => by simp only [markS, List.length_cons, markS_len r]
theorem markS_app : ∀ (r t : List S81) (a : Int), markS a (r ++ t) = markS a r ++ markS (a + mkN r) t
  | [], t, a => by simp [markS, mkN]
  | s :: r, t, a => by
    simp only [List.cons_append, markS, mkN, markS_app r t]
    rw [show a + 2 + 2 * (s.f2.length : Int) + mkN r = a + (2 + 2 * (s.f2.length : Int) + mkN r) from by omega]
theorem heldSeriesS_l0_ev (xs : List S81) : ∀ (suf pre : List S81) (a : Int), xs = pre ++ markS a suf → 0 ≤ a → a + mkN suf ≤ 4611686018427387000 → pre.length + suf.length ≤ 4611686018427387900 → Ev (fun k => laws_heldSeriesS.l0 k xs a (pre.length : Int)) (a + mkN suf) := by
  intro suf
  induction suf with
  | nil =>
    intro pre a h _ _ _
    subst h
    refine Ev.step (fun k => by rw [laws_heldSeriesS.l0]) ?_
    have hlt : ¬ ((pre.length : Int) < ((pre ++ markS a []).length : Int)) := by simp [markS]
    simp only [if_neg hlt, mkN, Int.add_zero]
    exact Ev.now _
  | cons s suf ih =>
    intro pre a h h0 h1 h2
    have hn := mkN_nn suf
    simp only [mkN] at h1 ⊢
    rw [List.length_cons] at h2
    have hr := ih (pre ++ [⟨markT a, markT (a + 1), markP (a + 2) s.f2⟩]) (a + 2 + 2 * s.f2.length) (by rw [h]; simp [markS]) (by omega) (by omega) (by rw [List.length_append, List.length_singleton]; omega)
    rw [List.length_append, List.length_singleton] at hr
    refine Ev.step (fun k => by rw [laws_heldSeriesS.l0]) ?_
    have hw := wrapn pre.length (by omega)
    have hw1 : wrap64 (a + 1) = a + 1 := by unfold wrap64; omega
    have hw2 : wrap64 ((a + 1) + 1) = a + 2 := by unfold wrap64; omega
    have hlt : (pre.length : Int) < (xs.length : Int) := by rw [h]; exact lt_mid _ _ _
    have hrd : rd_T81 xs (pre.length : Int) = ⟨markT a, markT (a + 1), markP (a + 2) s.f2⟩ := by rw [h]; exact rdS_mid _ _ _
    simp only [if_pos hlt, if_pos (nn _), hrd, hw, hw1, hw2]
    refine Ev.bind (markT_ev a (by omega)) ?_
    simp only [if_true]
    refine Ev.bind (markT_ev (a + 1) (by omega)) ?_
    simp only [if_true]
    refine Ev.bind (heldPointS_ev s.f2 (a + 2) (by omega) (by omega)) ?_
    have hneg : ¬ (a + 2 + 2 * (s.f2.length : Int) < 0) := by omega
    simp only [if_neg hneg]
    rw [show a + (2 + 2 * (s.f2.length : Int) + mkN suf) = a + 2 + 2 * (s.f2.length : Int) + mkN suf from by omega]
    exact hr
theorem heldSeriesS_ev (l : List S81) (a : Int) (h0 : 0 ≤ a) (h1 : a + mkN l ≤ 4611686018427387000) (hl : l.length ≤ 4611686018427387900) : Ev (fun k => laws_heldSeriesS.f k (markS a l) a) (a + mkN l) := heldSeriesS_l0_ev _ l [] a rfl h0 h1 (by simpa using hl)
end Go.Proofs.Ytplekidnlofioaa.Q
namespace Go.Proofs.Ytplekidnlofioaa.Q
open Go.RowKit Go.Proofs.YtplekidnlofioaaW.PrintWords Go.Proofs.YtplekidnlofioaaW.PrintLast
set_option linter.unusedVariables false
set_option linter.unusedSimpArgs false
/-- A slice of one's own that may begin inside its block. -/
def sliceQ {α : Type} (e : Nat) (d : Kd α) : Kd (List α) where
  sz := 1
  E := e :: d.E
  K := fun w xs cs => ∃ A c, cs = [.slice A xs.length c] ∧ xs.length ≤ c ∧ d.C w A xs.length xs
  M := fun w base ok xs cs => ∃ v, cs = [v] ∧ d.Q e w base ok v xs
  K_len := by
    rintro w x cs ⟨A, c, rfl, _⟩
    rfl
  K_one := by
    rintro w x cs ⟨A, c, rfl, _⟩ u hu
    rw [List.mem_singleton.1 hu]
    rfl
  K_below := by
    rintro w w1 x cs hb ⟨A, c, rfl, hl, hr⟩
    exact ⟨A, c, rfl, hl, Kd.C_below hr hb⟩
  K_of_M := by
    rintro w base ok x cs ⟨v, rfl, h⟩
    obtain ⟨A, c, rfl, hl, hr⟩ := Kd.Q_reads h
    exact ⟨A, c, rfl, hl, hr⟩
  M_mono := by
    rintro w base ok ok' x cs hok ⟨v, rfl, h⟩
    exact ⟨v, rfl, Kd.Q_mono h hok⟩
  M_bound := by
    rintro w base ok x cs ⟨v, rfl, h⟩
    exact ⟨v, rfl, Kd.Q_bound h⟩
  M_move := by
    rintro w w1 base ok x cs hm ⟨v, rfl, h⟩
    exact ⟨v, rfl, Kd.Q_move h hm⟩
  M_lower := by
    rintro w base base' ok x cs hb ⟨v, rfl, h⟩
    exact ⟨v, rfl, Kd.Q_lower h hb⟩
def kq : Kd S81 := Kd.iso (Kd.pair Kd.string (Kd.pair Kd.string (sliceQ 37 k37))) (fun x => (x.f0, x.f1, x.f2))
theorem kq_openM {w : World} {base : Nat} {ok : Nat → Prop} {x : S81} {cs : List Value} (h : kq.M w base ok x cs) : ∃ v2, cs = [.string x.f0, .string x.f1, v2] ∧ Kd.Q k37 37 w base ok v2 x.f2 := by
  obtain ⟨_, _, rfl, rfl, ⟨_, _, rfl, rfl, ⟨v2, rfl, g2⟩⟩⟩ := h
  exact ⟨v2, rfl, g2⟩
theorem kq_mkM (w : World) (base : Nat) (ok : Nat → Prop) (x : S81) {v2 : Value} (g2 : Kd.Q k37 37 w base ok v2 x.f2) : kq.M w base ok x [.string x.f0, .string x.f1, v2] := ⟨[.string x.f0], [.string x.f1, v2], rfl, rfl, ⟨[.string x.f1], [v2], rfl, rfl, ⟨v2, rfl, g2⟩⟩⟩
theorem kq_of_M {w : World} {base : Nat} {ok : Nat → Prop} {x : S81} {cs : List Value} (h : k81.M w base ok x cs) : kq.M w base ok x cs := by
  obtain ⟨v2, rfl, hR⟩ := k81_openM h
  exact kq_mkM _ _ _ x (Kd.Q_of_R hR)
theorem kq_K {w : World} {x : S81} {cs : List Value} (h : kq.K w x cs) : k81.K w x cs := h
theorem kq_C {w : World} {A : Option Addr} {n : Nat} {xs : List S81} (h : Kd.C kq w A n xs) : Kd.C k81 w A n xs := h
theorem kq_S {e : Nat} {w : World} {base : Nat} {ok : Nat → Prop} {v : Value} {xs : List S81} (h : Kd.S k81 e w base ok v xs) : Kd.S kq e w base ok v xs := by
  obtain ⟨f, h0, inner, ho, hr⟩ := h
  exact ⟨f, h0, inner, ho, hr.1, fun j p hj => kq_of_M (hr.2 j p hj)⟩
theorem kq_F {w : World} {ok : Nat → Prop} {A : Option Addr} {n : Nat} {xs : List S81} (h : Kd.F kq w ok A n xs) : Kd.F k81 w ok A n xs := h
end Go.Proofs.Ytplekidnlofioaa.Q
namespace Go.Proofs.Ytplekidnlofioaa.Q
open Go.RowKit Go.Proofs.YtplekidnlofioaaW.PrintWords Go.Proofs.YtplekidnlofioaaW.PrintLast Go.Proofs.YtplekidnlofioaaW.PrintMore
attribute [local go_sem] max2_int min2_int max_two min_two max_three min_three max_four min_four   -- for this text's walks alone
set_option linter.unusedVariables false
set_option linter.unusedSimpArgs false

/-! ### spec_l03At: function 93 -/
def spec_l03At.l0 : Nat → List (S81) → ByteArray → ByteArray → Int → Option (Int)
 | 0, _, _, _, _ => none
 | k + 1, x0, x1, x2, x7 => if x7 < (x0.length : Int) then (if 0 ≤ x7 then (if ((rd_T81 x0 x7).f0).toList = x1.toList then (if ((rd_T81 x0 x7).f1).toList = x2.toList then (some x7) else (spec_l03At.l0 k x0 x1 x2 (wrap64 (x7 + 1)))) else (spec_l03At.l0 k x0 x1 x2 (wrap64 (x7 + 1)))) else (none)) else (some (-1))
def spec_l03At.f (k : Nat) (l0 : List (S81)) (a1 : ByteArray) (a2 : ByteArray) : Option (Int) := spec_l03At.l0 k l0 a1 a2 0
theorem spec_l03At.mono_l : ∀ k, (∀ y0 y1 y2 y3, LeO (spec_l03At.l0 k y0 y1 y2 y3) (spec_l03At.l0 (k + 1) y0 y1 y2 y3))
 | 0 => fun _ _ _ _ r h => by simp [spec_l03At.l0] at h
 | k + 1 => by
  have ih0 := spec_l03At.mono_l k
  · intro y0 y1 y2 y3
    unfold spec_l03At.l0
    repeat' first
    | (with_reducible exact ih0 _ _ _ _)
    | (with_reducible exact LeO.refl _)
    | (with_reducible exact LeO.none _)
    | (with_reducible refine LeO.ite ?_ ?_)
    | (with_reducible refine LeO.bind ?_ (fun _ => ?_))
    | exact ih0 _ _ _ _
    | exact LeO.none _
    | refine LeO.ite ?_ ?_
    | refine LeO.bind ?_ (fun _ => ?_)
theorem spec_l03At.mono : ∀ a0 a1 a2 k, LeO (spec_l03At.f k a0 a1 a2) (spec_l03At.f (k + 1) a0 a1 a2) := by
 intro a0 a1 a2 k
 have ih0 := spec_l03At.mono_l k
 unfold spec_l03At.f
 repeat' first
  | (with_reducible exact ih0 _ _ _ _)
  | (with_reducible exact LeO.refl _)
  | (with_reducible exact LeO.none _)
  | (with_reducible refine LeO.ite ?_ ?_)
  | (with_reducible refine LeO.bind ?_ (fun _ => ?_))
  | exact ih0 _ _ _ _
  | exact LeO.none _
  | refine LeO.ite ?_ ?_
  | refine LeO.bind ?_ (fun _ => ?_)
set_option maxHeartbeats 8000000 in
set_option maxRecDepth 100000 in
theorem spec_l03At.calls (k : Nat) (A0 : Option Addr) (c0 : Nat) (l0 : List (S81)) (a1 : ByteArray) (a2 : ByteArray) (r : Int) (w : World) (hr0 : Kd.C k81 w A0 l0.length l0) (hc0 : l0.length ≤ c0) (h : spec_l03At.f k l0 a1 a2 = some r) :
 Calls Try.prog 93 #[.slice A0 l0.length c0, .string a1, .string a2] w fun e w' => e = .returned (.int .i64 r) ∧ Drawn0 w w' := by
 have HR0 := Aside0.mk hr0
 have HC0 := Aside0.mk hc0
 clear hr0 hc0
 have H : (spec_l03At.l0 k l0 a1 a2 0) = some r := h
 clear h
 have H' := Aside0.mk H
 clear H
 go_enter Try.func93, Try.ntmps93
 go_wp2
 go_loopg [7] k (fun kq v7 w' => ∃ (x7_1 : Int), v7 = .int .i64 x7_1 ∧ Aside0 (spec_l03At.l0 kq l0 a1 a2 x7_1 = some r) ∧ Aside0 (kq ≤ k) ∧ Drawn0 w w')
 case atStart => exact ⟨(0), es, H', ⟨Nat.le_refl _⟩, dr0⟩
 case round =>
  clear H'
  try clear p2
  obtain ⟨x7_1, rfl, HA, HK1, ⟨m1, rfl⟩⟩ := hrel
  cases gk with
  | zero => exact absurd HA.out (by simp [spec_l03At.l0])
  | succ k1 =>
   have H := HA.out
   clear HA
   simp only [spec_l03At.l0] at H
   by_cases c4 : x7_1 < (l0.length : Int)
   · rw [if_pos c4] at H
     have c4b0 : decide (x7_1 < (l0.length : Int)) = true := decide_eq_true c4
     clear c4
     by_cases c5 : 0 ≤ x7_1
     · rw [if_pos c5] at H
       have c5b0 : decide (0 ≤ x7_1) = true := decide_eq_true c5
       clear c5
       by_cases c6 : ((rd_T81 l0 x7_1).f0).toList = a1.toList
       · rw [if_pos c6] at H
         have c6b0 : (((rd_T81 l0 x7_1).f0).toList == a1.toList) = true := beq_iff_eq.mpr c6
         have c6b1 : (((rd_T81 l0 x7_1).f0).toList != a1.toList) = false := bne_eq_false_iff_eq.mpr c6
         clear c6
         by_cases c7 : ((rd_T81 l0 x7_1).f1).toList = a2.toList
         · rw [if_pos c7] at H
           have c7b0 : (((rd_T81 l0 x7_1).f1).toList == a2.toList) = true := beq_iff_eq.mpr c7
           have c7b1 : (((rd_T81 l0 x7_1).f1).toList != a2.toList) = false := bne_eq_false_iff_eq.mpr c7
           clear c7
           obtain rfl := Option.some.inj H
           have p379 : 0 ≤ (x7_1 : Int) := of_decide_eq_true am
           have q379 : x7_1 < (l0.length : Int) := of_decide_eq_true am
           obtain ⟨ad379, A379_2, c379_2, e379, hx379_0, hx379_1, hx379_2, hl379_2, hi379_2⟩ := at_T81 HR0.out x7_1 p379 q379
           cases e379
           have HR379_2 := Aside0.mk hi379_2
           have HC379_2 := Aside0.mk hl379_2
           clear hi379_2 hl379_2
           replace p379 := eq_true p379
           replace q379 := eq_true q379
           have p380 : 0 ≤ (x7_1 : Int) := of_decide_eq_true am
           have q380 : x7_1 < (l0.length : Int) := of_decide_eq_true am
           obtain ⟨ad380, A380_2, c380_2, e380, hx380_0, hx380_1, hx380_2, hl380_2, hi380_2⟩ := at_T81 HR0.out x7_1 p380 q380
           obtain rfl : ad379 = ad380 := (by injection e380)
           have HR380_2 := Aside0.mk hi380_2
           have HC380_2 := Aside0.mk hl380_2
           clear hi380_2 hl380_2
           replace p380 := eq_true p380
           replace q380 := eq_true q380
           have ea_ := Option.some.inj (hx379_2.symm.trans hx380_2)
           injection ea_ with ea_ en_ ec_
           subst ea_
           subst ec_
           clear en_
           go_wp2
           go_ret
           exact ⟨es, dr0⟩
         · rw [if_neg c7] at H
           have c7b0 : (((rd_T81 l0 x7_1).f1).toList == a2.toList) = false := beq_eq_false_iff_ne.mpr c7
           have c7b1 : (((rd_T81 l0 x7_1).f1).toList != a2.toList) = true := bne_iff_ne.mpr c7
           have H' := Aside0.mk H
           clear H
           have p379 : 0 ≤ (x7_1 : Int) := of_decide_eq_true am
           have q379 : x7_1 < (l0.length : Int) := of_decide_eq_true am
           obtain ⟨ad379, A379_2, c379_2, e379, hx379_0, hx379_1, hx379_2, hl379_2, hi379_2⟩ := at_T81 HR0.out x7_1 p379 q379
           cases e379
           have HR379_2 := Aside0.mk hi379_2
           have HC379_2 := Aside0.mk hl379_2
           clear hi379_2 hl379_2
           replace p379 := eq_true p379
           replace q379 := eq_true q379
           have p380 : 0 ≤ (x7_1 : Int) := of_decide_eq_true am
           have q380 : x7_1 < (l0.length : Int) := of_decide_eq_true am
           obtain ⟨ad380, A380_2, c380_2, e380, hx380_0, hx380_1, hx380_2, hl380_2, hi380_2⟩ := at_T81 HR0.out x7_1 p380 q380
           obtain rfl : ad379 = ad380 := (by injection e380)
           have HR380_2 := Aside0.mk hi380_2
           have HC380_2 := Aside0.mk hl380_2
           clear hi380_2 hl380_2
           replace p380 := eq_true p380
           replace q380 := eq_true q380
           have ea_ := Option.some.inj (hx379_2.symm.trans hx380_2)
           injection ea_ with ea_ en_ ec_
           subst ea_
           subst ec_
           clear en_
           go_wp2
           go_roundg k1
           case measure => have := HK1.out; omega
           case rel => exact ⟨(wrap64 (x7_1 + 1)), es, H', ⟨kp⟩, dr0⟩
       · rw [if_neg c6] at H
         have c6b0 : (((rd_T81 l0 x7_1).f0).toList == a1.toList) = false := beq_eq_false_iff_ne.mpr c6
         have c6b1 : (((rd_T81 l0 x7_1).f0).toList != a1.toList) = true := bne_iff_ne.mpr c6
         have H' := Aside0.mk H
         clear H
         have p379 : 0 ≤ (x7_1 : Int) := of_decide_eq_true am
         have q379 : x7_1 < (l0.length : Int) := of_decide_eq_true am
         obtain ⟨ad379, A379_2, c379_2, e379, hx379_0, hx379_1, hx379_2, hl379_2, hi379_2⟩ := at_T81 HR0.out x7_1 p379 q379
         cases e379
         have HR379_2 := Aside0.mk hi379_2
         have HC379_2 := Aside0.mk hl379_2
         clear hi379_2 hl379_2
         replace p379 := eq_true p379
         replace q379 := eq_true q379
         go_wp2
         go_roundg k1
         case measure => have := HK1.out; omega
         case rel => exact ⟨(wrap64 (x7_1 + 1)), es, H', ⟨kp⟩, dr0⟩
     · rw [if_neg c5] at H
       exact absurd H (by simp)
   · rw [if_neg c4] at H
     have c4b0 : decide (x7_1 < (l0.length : Int)) = false := decide_eq_false c4
     clear c4
     obtain rfl := Option.some.inj H
     go_wp2
     go_ret
     exact ⟨es, dr0⟩

end Go.Proofs.Ytplekidnlofioaa.Q
namespace Go.Proofs.Ytplekidnlofioaa.Q
open Go.RowKit Go.Proofs.YtplekidnlofioaaW.PrintWords Go.Proofs.YtplekidnlofioaaW.PrintLast Go.Proofs.YtplekidnlofioaaW.PrintMore
attribute [local go_sem] max2_int min2_int max_two min_two max_three min_three max_four min_four   -- for this text's walks alone
set_option linter.unusedVariables false
set_option linter.unusedSimpArgs false

/-! ### spec_l03Points: function 94 -/
def spec_l03Points.l0 : Nat → List (S37) → List (S37) → Int → Option ((List (S37)))
 | 0, _, _, _ => none
 | k + 1, x0, x3, x4 => if x4 < (x0.length : Int) then (if 0 ≤ x4 then (if x3.length < 8796093022208 then (spec_l03Points.l0 k x0 (x3 ++ [(⟨(rd_T37 x0 x4).f0, (rd_T37 x0 x4).f1⟩ : S37)]) (wrap64 (x4 + 1))) else (none)) else (none)) else (some x3)
def spec_l03Points.f (k : Nat) (l0 : List (S37)) : Option ((List (S37))) := spec_l03Points.l0 k l0 (([] : List (S37))) 0
theorem spec_l03Points.mono_l : ∀ k, (∀ y0 y1 y2, LeO (spec_l03Points.l0 k y0 y1 y2) (spec_l03Points.l0 (k + 1) y0 y1 y2))
 | 0 => fun _ _ _ r h => by simp [spec_l03Points.l0] at h
 | k + 1 => by
  have ih0 := spec_l03Points.mono_l k
  · intro y0 y1 y2
    unfold spec_l03Points.l0
    repeat' first
    | (with_reducible exact ih0 _ _ _)
    | (with_reducible exact LeO.refl _)
    | (with_reducible exact LeO.none _)
    | (with_reducible refine LeO.ite ?_ ?_)
    | (with_reducible refine LeO.bind ?_ (fun _ => ?_))
    | exact ih0 _ _ _
    | exact LeO.none _
    | refine LeO.ite ?_ ?_
    | refine LeO.bind ?_ (fun _ => ?_)
theorem spec_l03Points.mono : ∀ a0 k, LeO (spec_l03Points.f k a0) (spec_l03Points.f (k + 1) a0) := by
 intro a0 k
 have ih0 := spec_l03Points.mono_l k
 unfold spec_l03Points.f
 repeat' first
  | (with_reducible exact ih0 _ _ _)
  | (with_reducible exact LeO.refl _)
  | (with_reducible exact LeO.none _)
  | (with_reducible refine LeO.ite ?_ ?_)
  | (with_reducible refine LeO.bind ?_ (fun _ => ?_))
  | exact ih0 _ _ _
  | exact LeO.none _
  | refine LeO.ite ?_ ?_
  | refine LeO.bind ?_ (fun _ => ?_)
set_option maxHeartbeats 8000000 in
set_option maxRecDepth 100000 in
theorem spec_l03Points.calls (k : Nat) (A0 : Option Addr) (c0 : Nat) (l0 : List (S37)) (r : List (S37)) (w : World) (hr0 : Kd.C k37 w A0 l0.length l0) (hc0 : l0.length ≤ c0) (h : spec_l03Points.f k l0 = some r) :
 Calls Try.prog 94 #[.slice A0 l0.length c0] w fun e w' => ∃ v0_ : Value, e = .returned (v0_) ∧ Kd.R k37 37 w' w.heap.size (fun _ => True) v0_ r ∧ Below w.heap.size w w' := by
 have hu37 := Try.underlying37
 have HR0 := Aside0.mk hr0
 have HC0 := Aside0.mk hc0
 clear hr0 hc0
 have HB := Aside0.mk (Below.refl w.heap.size w)
 have H : (spec_l03Points.l0 k l0 (([] : List (S37))) 0) = some r := h
 clear h
 obtain ⟨y222, hy222⟩ : ∃ y_ : List (S37), y_ = (([] : List (S37))) := ⟨_, rfl⟩
 replace H : (spec_l03Points.l0 k l0 y222 0) = some r := by first | (rw [hy222]; with_reducible exact H) | (have H2_ := (Option.bind_some _ _).symm.trans H; rw [hy222]; with_reducible exact H2_) | (have H2_ := (Option.bind_some _ _).symm.trans H; with_reducible exact H2_) | with_reducible exact H | (rw [hy222]; exact H) | exact H
 have Ny222 := Aside0.mk hy222
 clear hy222
 have H' := Aside0.mk H
 clear H
 go_enter Try.func94, Try.ntmps94
 go_wp2_with (first | ((with_reducible refine gate_dst (N := 5) rfl ?_); refine Kd.R_lit k37 _ 37 ?hg (N := 5) ?hd (xs := ([] : List (S37))) (inner := []) (ok := fun _ => True) (okp := fun _ => True) ?hr ?hp (fun _ hk => hk) trivial (Below.refl _ _) (Nat.le_refl _) (by simp) ?_; (case hd => rfl); (case hg => rfl); (case hr => first | (go_simp; done) | (go_simp; rfl)); (case hp => exact (Reps.none _ _)); intro v223 w2 ho3 hb hg_ hnew_; clear hg_ hnew_; (first | rw [← Ny222.out] at ho3 | (simp only [Int.reduceToNat] at ho3; rw [← Ny222.out] at ho3)); have HO224 := ak (Kd.R_lower ho3 (below_size bl)); replace HB := ak (below_step bl hb); clear hb ho3))
 go_loopg [3, 4] k (fun kq v3 v4 w' => ∃ (x3_1 : List (S37)) (x4_1 : Int), v4 = .int .i64 x4_1 ∧ Aside0 (spec_l03Points.l0 kq l0 x3_1 x4_1 = some r) ∧ Aside0 (kq ≤ k) ∧ Aside0 (Kd.R k37 37 w' w.heap.size (fun _ => True) v3 x3_1) ∧ Aside0 (Below w.heap.size w w'))
 case atStart => exact ⟨(y222), (0), es, H', ⟨Nat.le_refl _⟩, ⟨kr HO224⟩, ⟨bl⟩⟩
 case round =>
  clear H'
  try clear p2
  obtain ⟨x3_1, x4_1, rfl, HA, HK1, HO_3, HB⟩ := hrel
  cases gk with
  | zero => exact absurd HA.out (by simp [spec_l03Points.l0])
  | succ k1 =>
   have H := HA.out
   clear HA
   simp only [spec_l03Points.l0] at H
   by_cases c4 : x4_1 < (l0.length : Int)
   · rw [if_pos c4] at H
     have c4b0 : decide (x4_1 < (l0.length : Int)) = true := decide_eq_true c4
     clear c4
     by_cases c5 : 0 ≤ x4_1
     · rw [if_pos c5] at H
       have c5b0 : decide (0 ≤ x4_1) = true := decide_eq_true c5
       clear c5
       by_cases c6 : x3_1.length < 8796093022208
       · rw [if_pos c6] at H
         have LMc6 := Aside0.mk c6
         clear c6
         obtain ⟨y226, hy226⟩ : ∃ y_ : List (S37), y_ = (x3_1 ++ [(⟨(rd_T37 l0 x4_1).f0, (rd_T37 l0 x4_1).f1⟩ : S37)]) := ⟨_, rfl⟩
         replace H : (spec_l03Points.l0 k1 l0 y226 (wrap64 (x4_1 + 1))) = some r := by first | (rw [hy226]; with_reducible exact H) | (have H2_ := (Option.bind_some _ _).symm.trans H; rw [hy226]; with_reducible exact H2_) | (have H2_ := (Option.bind_some _ _).symm.trans H; with_reducible exact H2_) | with_reducible exact H | (rw [hy226]; exact H) | exact H
         have Ny226 := Aside0.mk hy226
         clear hy226
         have H' := Aside0.mk H
         clear H
         have p225 : 0 ≤ (x4_1 : Int) := of_decide_eq_true am
         have q225 : x4_1 < (l0.length : Int) := of_decide_eq_true am
         obtain ⟨ad225, e225, hx225_0, hx225_1⟩ := at_T37 HR0.out x4_1 p225 q225
         cases e225
         replace hx225_0 := cw hx225_0
         replace hx225_1 := cw hx225_1
         replace p225 := eq_true p225
         replace q225 := eq_true q225
         go_wp2_with (first | ((with_reducible refine gate_builtin (b := .append) (xs := #[.tmp 12, .tmp 17]) rfl ?_); at_builtin; refine Kd.R_append k37 (w0 := w) w.heap.size rfl (.tmp 12) (.tmp 17) 31 37 (.agg #[(.int .i64 0), (.int .i64 0)]) 16 rfl Try.underlying31 info37 rfl (by decide) (by omega) u3 x3_1 (⟨(rd_T37 l0 x4_1).f0, (rd_T37 l0 x4_1).f1⟩ : S37) [.int .i64 ((rd_T37 l0 x4_1).f0), .int .i64 ((rd_T37 l0 x4_1).f1)] (fun _ => True) (fun _ => False) rfl rfl ?aP (fun _ hk => hk.elim) ?aF ?aO ?aB ?aS ?aL ?_; (case aP => exact k37_mkM _ _ _ (⟨(rd_T37 l0 x4_1).f0, (rd_T37 l0 x4_1).f1⟩ : S37)); (case aB => exact bl); (case aF => exact (fun _ _ => trivial)); (case aO => exact (kr HO_3)); (case aS => exact (below_size bl)); (case aL => have := LMc6.out; omega); intro v227 w7 ho hb hg hat; rw [← Ny226.out] at ho; replace HB := ak hb; have HO228 := ak ho; clear HO_3; clear ho hb hg hat))
         go_roundg k1
         case measure => have := HK1.out; omega
         case rel => exact ⟨(y226), (wrap64 (x4_1 + 1)), es, H', ⟨kp⟩, ⟨kr HO228⟩, ⟨bl⟩⟩
       · rw [if_neg c6] at H
         exact absurd H (by simp)
     · rw [if_neg c5] at H
       exact absurd H (by simp)
   · rw [if_neg c4] at H
     have c4b0 : decide (x4_1 < (l0.length : Int)) = false := decide_eq_false c4
     clear c4
     obtain rfl := Option.some.inj H
     go_wp2
     go_ret
     exact ⟨_, ew, kr HO_3, bl⟩

end Go.Proofs.Ytplekidnlofioaa.Q
namespace Go.Proofs.Ytplekidnlofioaa.Q
open Go.RowKit Go.Proofs.YtplekidnlofioaaW.PrintWords Go.Proofs.YtplekidnlofioaaW.PrintLast Go.Proofs.YtplekidnlofioaaW.PrintMore
attribute [local go_sem] max2_int min2_int max_two min_two max_three min_three max_four min_four   -- for this text's walks alone
set_option linter.unusedVariables false
set_option linter.unusedSimpArgs false

/-! ### spec_SeriesOf: function 154 -/
def spec_SeriesOf.f (k : Nat) (l0 : List (S81)) (a1 : ByteArray) (a2 : ByteArray) : Option ((List (S37)) × Bool) := (spec_l03At.f k l0 a1 a2).bind fun t381 => ((spec_StoreOk.f k l0).bind fun t382 => (if t382 = true then (if t381 < 0 then (some (([] : List (S37)), false)) else (if 0 ≤ t381 then (if t381 < (l0.length : Int) then ((spec_l03Points.f k ((rd_T81 l0 t381).f2)).bind fun t384 => (some (t384, true))) else (none)) else (none))) else (some (([] : List (S37)), false))))
theorem spec_SeriesOf.mono : ∀ a0 a1 a2 k, LeO (spec_SeriesOf.f k a0 a1 a2) (spec_SeriesOf.f (k + 1) a0 a1 a2) := by
 intro a0 a1 a2 k
 unfold spec_SeriesOf.f
 repeat' first
  | (with_reducible exact spec_StoreOk.mono _ _)
  | (with_reducible exact spec_l03At.mono _ _ _ _)
  | (with_reducible exact spec_l03Points.mono _ _)
  | (with_reducible exact LeO.refl _)
  | (with_reducible exact LeO.none _)
  | (with_reducible refine LeO.ite ?_ ?_)
  | (with_reducible refine LeO.bind ?_ (fun _ => ?_))
  | exact spec_StoreOk.mono _ _
  | exact spec_l03At.mono _ _ _ _
  | exact spec_l03Points.mono _ _
  | exact LeO.none _
  | refine LeO.ite ?_ ?_
  | refine LeO.bind ?_ (fun _ => ?_)
set_option maxHeartbeats 8000000 in
set_option maxRecDepth 100000 in
theorem spec_SeriesOf.calls (k : Nat) (A0 : Option Addr) (c0 : Nat) (l0 : List (S81)) (a1 : ByteArray) (a2 : ByteArray) (r1 : List (S37)) (r2 : Bool) (w : World) (hr0 : Kd.C k81 w A0 l0.length l0) (hc0 : l0.length ≤ c0) (h : spec_SeriesOf.f k l0 a1 a2 = some (r1, r2)) :
 Calls Try.prog 154 #[.slice A0 l0.length c0, .string a1, .string a2] w fun e w' => ∃ v0_ : Value, e = .returned (.tuple #[v0_, .bool r2]) ∧ Kd.R k37 37 w' w.heap.size (fun _ => True) v0_ r1 ∧ Below w.heap.size w w' := by
 have HR0 := Aside0.mk hr0
 have HC0 := Aside0.mk hc0
 clear hr0 hc0
 have HB := Aside0.mk (Below.refl w.heap.size w)
 have H : ((spec_l03At.f k l0 a1 a2).bind fun t381 => ((spec_StoreOk.f k l0).bind fun t382 => (if t382 = true then (if t381 < 0 then (some (([] : List (S37)), false)) else (if 0 ≤ t381 then (if t381 < (l0.length : Int) then ((spec_l03Points.f k ((rd_T81 l0 t381).f2)).bind fun t384 => (some (t384, true))) else (none)) else (none))) else (some (([] : List (S37)), false))))) = some (r1, r2) := h
 clear h
 obtain ⟨t381, A40, H⟩ := bo H
 have A4 := Aside0.mk A40
 clear A40
 obtain ⟨t382, A50, H⟩ := bo H
 have A5 := Aside0.mk A50
 clear A50
 by_cases c6 : t382 = true
 · subst c6
   replace H := iT H
   by_cases c7 : t381 < 0
   · rw [if_pos c7] at H
     have c7b0 : decide (t381 < 0) = true := decide_eq_true c7
     clear c7
     simp only [Option.some.injEq, Prod.mk.injEq] at H
     obtain ⟨rfl, rfl⟩ := H
     go_enter Try.func154, Try.ntmps154
     go_wp2_with (first | ((with_reducible refine gate_callee (f := 93) rfl ?_); refine gl (some 12) Try.func93 #[.slice A0 l0.length c0, .string a1, .string a2] ?_; (with_reducible refine (spec_l03At.calls k _ _ l0 a1 a2 t381 _ ?side1 ?side2 A4.out).mono ?_); (case side1 => repeat (first | exact HR0.out | (with_reducible refine Kd.C_alloc ?_ _) | (with_reducible refine Kd.C_drewN ?_ _) | (with_reducible refine Kd.C_drew ?_))); (case side2 => exact HC0.out); rintro e w' ⟨rfl, ⟨nd, rfl⟩⟩; refine ⟨_, rfl, ?_⟩) | ((with_reducible refine gate_callee (f := 16) rfl ?_); refine gl (some 14) Try.func16 #[.slice A0 l0.length c0] ?_; (with_reducible refine (spec_StoreOk.calls k _ _ l0 true _ ?side1 ?side2 A5.out).mono ?_); (case side1 => repeat (first | exact HR0.out | (with_reducible refine Kd.C_alloc ?_ _) | (with_reducible refine Kd.C_drewN ?_ _) | (with_reducible refine Kd.C_drew ?_))); (case side2 => exact HC0.out); rintro e w8 ⟨rfl, hb⟩; refine ⟨_, rfl, ?_⟩; replace HB := ak (below_step bl hb); (try clear hb); (try clear hb2); (try clear hk); (try clear hi)))
     go_ret2
     exact ⟨_, ew, by first | exact Kd.R_nil _ _ _ _ _ | exact Kd.N_nil _ _ _ _ _ | exact Kd.V_nil _ _ _ _ _ | exact Kd.Q_nil _ _ _ _ _ | exact Kd.S_nil _ _ _ _ _, bl⟩
   · rw [if_neg c7] at H
     have c7b0 : decide (t381 < 0) = false := decide_eq_false c7
     clear c7
     by_cases c9 : 0 ≤ t381
     · rw [if_pos c9] at H
       have c9b0 : decide (0 ≤ t381) = true := decide_eq_true c9
       clear c9
       by_cases c10 : t381 < (l0.length : Int)
       · rw [if_pos c10] at H
         have c10b0 : decide (t381 < (l0.length : Int)) = true := decide_eq_true c10
         clear c10
         obtain ⟨t384, A110, H⟩ := bo H
         have A11 := Aside0.mk A110
         clear A110
         simp only [Option.some.injEq, Prod.mk.injEq] at H
         obtain ⟨rfl, rfl⟩ := H
         go_enter Try.func154, Try.ntmps154
         go_wp2_with (first | ((with_reducible refine gate_callee (f := 93) rfl ?_); refine gl (some 12) Try.func93 #[.slice A0 l0.length c0, .string a1, .string a2] ?_; (with_reducible refine (spec_l03At.calls k _ _ l0 a1 a2 t381 _ ?side1 ?side2 A4.out).mono ?_); (case side1 => repeat (first | exact HR0.out | (with_reducible refine Kd.C_alloc ?_ _) | (with_reducible refine Kd.C_drewN ?_ _) | (with_reducible refine Kd.C_drew ?_))); (case side2 => exact HC0.out); rintro e w' ⟨rfl, ⟨nd, rfl⟩⟩; refine ⟨_, rfl, ?_⟩) | ((with_reducible refine gate_callee (f := 16) rfl ?_); refine gl (some 14) Try.func16 #[.slice A0 l0.length c0] ?_; (with_reducible refine (spec_StoreOk.calls k _ _ l0 true _ ?side1 ?side2 A5.out).mono ?_); (case side1 => repeat (first | exact HR0.out | (with_reducible refine Kd.C_alloc ?_ _) | (with_reducible refine Kd.C_drewN ?_ _) | (with_reducible refine Kd.C_drew ?_))); (case side2 => exact HC0.out); rintro e w12 ⟨rfl, hb⟩; refine ⟨_, rfl, ?_⟩; replace HB := ak (below_step bl hb); (try clear hb); (try clear hb2); (try clear hk); (try clear hi); have p383 : 0 ≤ (t381 : Int) := of_decide_eq_true am; have q383 : t381 < (l0.length : Int) := of_decide_eq_true am; obtain ⟨ad383, A383_2, c383_2, e383, hx383_0, hx383_1, hx383_2, hl383_2, hi383_2⟩ := at_T81 HR0.out t381 p383 q383; cases e383; replace hx383_0 := cw hx383_0; replace hx383_1 := cw hx383_1; replace hx383_2 := cw hx383_2; have HR383_2 := Aside0.mk hi383_2; have HC383_2 := Aside0.mk hl383_2; clear hi383_2 hl383_2; replace p383 := eq_true p383; replace q383 := eq_true q383) | ((with_reducible refine gate_callee (f := 94) rfl ?_); refine gl (some 25) Try.func94 #[.slice A383_2 ((rd_T81 l0 t381).f2).length c383_2] ?_; (with_reducible refine (spec_l03Points.calls k _ _ ((rd_T81 l0 t381).f2) t384 _ ?side1 ?side2 A11.out).mono ?_); (case side1 => exact cb HR383_2); (case side2 => exact HC383_2.out); rintro e w13 ⟨v385, rfl, ho0, hb⟩; refine ⟨_, rfl, ?_⟩; have HO386 := ak (Kd.R_lower ho0 (below_size bl)); replace HB := ak (below_step bl hb); (try clear hb); (try clear hb2); (try clear hk); (try clear hi); (try clear ho0)))
         go_ret2
         exact ⟨_, ew, kr HO386, bl⟩
       · rw [if_neg c10] at H
         exact absurd H (by simp)
     · rw [if_neg c9] at H
       exact absurd H (by simp)
 · replace c6 := Bool.eq_false_iff.mpr c6
   subst c6
   replace H := iF H
   simp only [Option.some.injEq, Prod.mk.injEq] at H
   obtain ⟨rfl, rfl⟩ := H
   go_enter Try.func154, Try.ntmps154
   go_wp2_with (first | ((with_reducible refine gate_callee (f := 93) rfl ?_); refine gl (some 12) Try.func93 #[.slice A0 l0.length c0, .string a1, .string a2] ?_; (with_reducible refine (spec_l03At.calls k _ _ l0 a1 a2 t381 _ ?side1 ?side2 A4.out).mono ?_); (case side1 => repeat (first | exact HR0.out | (with_reducible refine Kd.C_alloc ?_ _) | (with_reducible refine Kd.C_drewN ?_ _) | (with_reducible refine Kd.C_drew ?_))); (case side2 => exact HC0.out); rintro e w' ⟨rfl, ⟨nd, rfl⟩⟩; refine ⟨_, rfl, ?_⟩) | ((with_reducible refine gate_callee (f := 16) rfl ?_); refine gl (some 14) Try.func16 #[.slice A0 l0.length c0] ?_; (with_reducible refine (spec_StoreOk.calls k _ _ l0 false _ ?side1 ?side2 A5.out).mono ?_); (case side1 => repeat (first | exact HR0.out | (with_reducible refine Kd.C_alloc ?_ _) | (with_reducible refine Kd.C_drewN ?_ _) | (with_reducible refine Kd.C_drew ?_))); (case side2 => exact HC0.out); rintro e w14 ⟨rfl, hb⟩; refine ⟨_, rfl, ?_⟩; replace HB := ak (below_step bl hb); (try clear hb); (try clear hb2); (try clear hk); (try clear hi)))
   go_ret2
   exact ⟨_, ew, by first | exact Kd.R_nil _ _ _ _ _ | exact Kd.N_nil _ _ _ _ _ | exact Kd.V_nil _ _ _ _ _ | exact Kd.Q_nil _ _ _ _ _ | exact Kd.S_nil _ _ _ _ _, bl⟩

end Go.Proofs.Ytplekidnlofioaa.Q
namespace Go.Proofs.Ytplekidnlofioaa.Q
open Go.RowKit Go.Proofs.YtplekidnlofioaaW.PrintWords Go.Proofs.YtplekidnlofioaaW.PrintLast Go.Proofs.YtplekidnlofioaaW.PrintMore
attribute [local go_sem] max2_int min2_int max_two min_two max_three min_three max_four min_four   -- for this text's walks alone
set_option linter.unusedVariables false
set_option linter.unusedSimpArgs false

/-! ### spec_l01Value: function 156 -/
def spec_l01Value.f (a0 : Int) : Option (Bool) := (spec_l01In.f a0 (-1000000000) 1000000000).bind fun t847 => (some t847)
set_option maxHeartbeats 8000000 in
set_option maxRecDepth 100000 in
theorem spec_l01Value.calls (a0 : Int) (r : Bool) (w : World) (h : spec_l01Value.f a0 = some r) :
 Calls Try.prog 156 #[.int .i64 a0] w fun e w' => e = .returned (.bool r) ∧ Drawn0 w w' := by
 have H : ((spec_l01In.f a0 (-1000000000) 1000000000).bind fun t847 => (some t847)) = some r := h
 clear h
 obtain ⟨t847, A20, H⟩ := bo H
 have A2 := Aside0.mk A20
 clear A20
 obtain rfl := Option.some.inj H
 go_enter Try.func156, Try.ntmps156
 go_wp2_with (first | ((with_reducible refine gate_callee (f := 69) rfl ?_); refine gl (some 4) Try.func69 #[.int .i64 a0, .int .i64 (-1000000000), .int .i64 1000000000] ?_; (with_reducible refine (spec_l01In.calls a0 (-1000000000) 1000000000 t847 _ A2.out).mono ?_); rintro e w' ⟨rfl, ⟨nd, rfl⟩⟩; refine ⟨_, rfl, ?_⟩))
 go_ret
 exact ⟨es, dr0⟩

end Go.Proofs.Ytplekidnlofioaa.Q
namespace Go.Proofs.Ytplekidnlofioaa.Q
open Go.RowKit Go.Proofs.YtplekidnlofioaaW.PrintWords Go.Proofs.YtplekidnlofioaaW.PrintLast Go.Proofs.YtplekidnlofioaaW.PrintMore
attribute [local go_sem] max2_int min2_int max_two min_two max_three min_three max_four min_four   -- for this text's walks alone
set_option linter.unusedVariables false
set_option linter.unusedSimpArgs false

/-! ### spec_CutValue: function 157 -/
def spec_CutValue.f (a0 : Int) : Option (Int × Bool) := if a0 > 1000000000 then (some (1000000000, true)) else (if a0 < (-1000000000) then (some ((-1000000000), true)) else (some (a0, false)))
set_option maxHeartbeats 8000000 in
set_option maxRecDepth 100000 in
theorem spec_CutValue.calls (a0 : Int) (r1 : Int) (r2 : Bool) (w : World) (h : spec_CutValue.f a0 = some (r1, r2)) :
 Calls Try.prog 157 #[.int .i64 a0] w fun e w' => e = .returned (.tuple #[.int .i64 r1, .bool r2]) ∧ Drawn0 w w' := by
 have H : (if a0 > 1000000000 then (some (1000000000, true)) else (if a0 < (-1000000000) then (some ((-1000000000), true)) else (some (a0, false)))) = some (r1, r2) := h
 clear h
 by_cases c2 : a0 > 1000000000
 · rw [if_pos c2] at H
   have c2b0 : decide (1000000000 < a0) = true := decide_eq_true c2
   clear c2
   simp only [Option.some.injEq, Prod.mk.injEq] at H
   obtain ⟨rfl, rfl⟩ := H
   go_enter Try.func157, Try.ntmps157
   go_wp2
   go_ret2
   exact ⟨es, dr0⟩
 · rw [if_neg c2] at H
   have c2b0 : decide (1000000000 < a0) = false := decide_eq_false c2
   clear c2
   by_cases c3 : a0 < (-1000000000)
   · rw [if_pos c3] at H
     have c3b0 : decide (a0 < (-1000000000)) = true := decide_eq_true c3
     clear c3
     simp only [Option.some.injEq, Prod.mk.injEq] at H
     obtain ⟨rfl, rfl⟩ := H
     go_enter Try.func157, Try.ntmps157
     go_wp2
     go_ret2
     exact ⟨es, dr0⟩
   · rw [if_neg c3] at H
     have c3b0 : decide (a0 < (-1000000000)) = false := decide_eq_false c3
     clear c3
     simp only [Option.some.injEq, Prod.mk.injEq] at H
     obtain ⟨rfl, rfl⟩ := H
     go_enter Try.func157, Try.ntmps157
     go_wp2
     go_ret2
     exact ⟨es, dr0⟩

end Go.Proofs.Ytplekidnlofioaa.Q
namespace Go.Proofs.Ytplekidnlofioaa.Q
open Go.RowKit Go.Proofs.YtplekidnlofioaaW.PrintWords Go.Proofs.YtplekidnlofioaaW.PrintLast Go.Proofs.YtplekidnlofioaaW.PrintMore
attribute [local go_sem] max2_int min2_int max_two min_two max_three min_three max_four min_four   -- for this text's walks alone
set_option linter.unusedVariables false
set_option linter.unusedSimpArgs false

/-! ### spec_AddValues: function 104 -/
mutual
def spec_AddValues.l0 : Nat → List Int → Int → Bool → Int → Option (Int × Bool)
 | 0, _, _, _, _ => none
 | k + 1, x0, x4, x5, x6 => if x6 < (x0.length : Int) then (if 0 ≤ x6 then ((spec_l01Value.f (rd x0 x6)).bind fun t849 => (if t849 = true then (spec_AddValues.l0 k x0 x4 x5 (wrap64 (x6 + 1))) else (some (0, true)))) else (none)) else (spec_AddValues.l1 k x0 x4 x5 0)
def spec_AddValues.l1 : Nat → List Int → Int → Bool → Int → Option (Int × Bool)
 | 0, _, _, _, _ => none
 | k + 1, x0, x4, x5, x7 => if x7 < (x0.length : Int) then (if 0 ≤ x7 then ((spec_CutValue.f (wrap64 (x4 + (rd x0 x7)))).bind fun bt851 => (if x5 = true then (spec_AddValues.l1 k x0 bt851.1 true (wrap64 (x7 + 1))) else (spec_AddValues.l1 k x0 bt851.1 bt851.2 (wrap64 (x7 + 1))))) else (none)) else (some (x4, x5))
end
def spec_AddValues.f (k : Nat) (l0 : List Int) : Option (Int × Bool) := if (l0.length : Int) > 300 then (some (0, true)) else (spec_AddValues.l0 k l0 0 false 0)
theorem spec_AddValues.mono_l : ∀ k, (∀ y0 y1 y2 y3, LeO (spec_AddValues.l0 k y0 y1 y2 y3) (spec_AddValues.l0 (k + 1) y0 y1 y2 y3)) ∧ (∀ y0 y1 y2 y3, LeO (spec_AddValues.l1 k y0 y1 y2 y3) (spec_AddValues.l1 (k + 1) y0 y1 y2 y3))
 | 0 => ⟨fun _ _ _ _ r h => by simp [spec_AddValues.l0] at h, fun _ _ _ _ r h => by simp [spec_AddValues.l1] at h⟩
 | k + 1 => by
  obtain ⟨ih0, ih1⟩ := spec_AddValues.mono_l k
  refine ⟨?_, ?_⟩
  · intro y0 y1 y2 y3
    unfold spec_AddValues.l0
    repeat' first
    | (with_reducible exact ih0 _ _ _ _)
    | (with_reducible exact ih1 _ _ _ _)
    | (with_reducible exact LeO.refl _)
    | (with_reducible exact LeO.none _)
    | (with_reducible refine LeO.ite ?_ ?_)
    | (with_reducible refine LeO.bind ?_ (fun _ => ?_))
    | exact ih0 _ _ _ _
    | exact ih1 _ _ _ _
    | exact LeO.none _
    | refine LeO.ite ?_ ?_
    | refine LeO.bind ?_ (fun _ => ?_)
  · intro y0 y1 y2 y3
    unfold spec_AddValues.l1
    repeat' first
    | (with_reducible exact ih0 _ _ _ _)
    | (with_reducible exact ih1 _ _ _ _)
    | (with_reducible exact LeO.refl _)
    | (with_reducible exact LeO.none _)
    | (with_reducible refine LeO.ite ?_ ?_)
    | (with_reducible refine LeO.bind ?_ (fun _ => ?_))
    | exact ih0 _ _ _ _
    | exact ih1 _ _ _ _
    | exact LeO.none _
    | refine LeO.ite ?_ ?_
    | refine LeO.bind ?_ (fun _ => ?_)
theorem spec_AddValues.mono : ∀ a0 k, LeO (spec_AddValues.f k a0) (spec_AddValues.f (k + 1) a0) := by
 intro a0 k
 obtain ⟨ih0, ih1⟩ := spec_AddValues.mono_l k
 unfold spec_AddValues.f
 repeat' first
  | (with_reducible exact ih0 _ _ _ _)
  | (with_reducible exact ih1 _ _ _ _)
  | (with_reducible exact LeO.refl _)
  | (with_reducible exact LeO.none _)
  | (with_reducible refine LeO.ite ?_ ?_)
  | (with_reducible refine LeO.bind ?_ (fun _ => ?_))
  | exact ih0 _ _ _ _
  | exact ih1 _ _ _ _
  | exact LeO.none _
  | refine LeO.ite ?_ ?_
  | refine LeO.bind ?_ (fun _ => ?_)
set_option maxHeartbeats 8000000 in
set_option maxRecDepth 100000 in
theorem spec_AddValues.calls (k : Nat) (A0 : Option Addr) (c0 : Nat) (l0 : List Int) (r1 : Int) (r2 : Bool) (w : World) (hr0 : Kd.C (Kd.int .i64) w A0 l0.length l0) (hc0 : l0.length ≤ c0) (h : spec_AddValues.f k l0 = some (r1, r2)) :
 Calls Try.prog 104 #[.slice A0 l0.length c0] w fun e w' => e = .returned (.tuple #[.int .i64 r1, .bool r2]) ∧ Drawn0 w w' := by
 have HR0 := Aside0.mk hr0
 have HC0 := Aside0.mk hc0
 clear hr0 hc0
 have H : (if (l0.length : Int) > 300 then (some (0, true)) else (spec_AddValues.l0 k l0 0 false 0)) = some (r1, r2) := h
 clear h
 by_cases c2 : (l0.length : Int) > 300
 · rw [if_pos c2] at H
   have c2b0 : decide (300 < (l0.length : Int)) = true := decide_eq_true c2
   have c2b1 : decide (300 < l0.length) = true := decide_eq_true (by omega)
   clear c2
   simp only [Option.some.injEq, Prod.mk.injEq] at H
   obtain ⟨rfl, rfl⟩ := H
   go_enter Try.func104, Try.ntmps104
   go_wp2
   go_ret2
   exact ⟨es, dr0⟩
 · rw [if_neg c2] at H
   have c2b0 : decide (300 < (l0.length : Int)) = false := decide_eq_false c2
   have c2b1 : decide (300 < l0.length) = false := decide_eq_false (by omega)
   clear c2
   have H' := Aside0.mk H
   clear H
   go_enter Try.func104, Try.ntmps104
   go_wp2
   go_loopg [6] k (fun kq v6 w' => ∃ (x6_1 : Int), v6 = .int .i64 x6_1 ∧ Aside0 (spec_AddValues.l0 kq l0 0 false x6_1 = some (r1, r2)) ∧ Aside0 (kq ≤ k) ∧ Drawn0 w w')
   case atStart => exact ⟨(0), es, H', ⟨Nat.le_refl _⟩, dr0⟩
   case round =>
    clear H'
    try clear c1
    try clear c2
    try clear c2b0
    try clear c2b1
    try clear p2
    obtain ⟨x6_1, rfl, HA, HK1, ⟨m1, rfl⟩⟩ := hrel
    cases gk with
    | zero => exact absurd HA.out (by simp [spec_AddValues.l0])
    | succ k1 =>
     have H := HA.out
     clear HA
     simp only [spec_AddValues.l0] at H
     by_cases c3 : x6_1 < (l0.length : Int)
     · rw [if_pos c3] at H
       have c3b0 : decide (x6_1 < (l0.length : Int)) = true := decide_eq_true c3
       clear c3
       by_cases c4 : 0 ≤ x6_1
       · rw [if_pos c4] at H
         have c4b0 : decide (0 ≤ x6_1) = true := decide_eq_true c4
         clear c4
         obtain ⟨t849, A50, H⟩ := bo H
         have A5 := Aside0.mk A50
         clear A50
         by_cases c6 : t849 = true
         · subst c6
           replace H := iT H
           have H' := Aside0.mk H
           clear H
           have p848 : 0 ≤ (x6_1 : Int) := of_decide_eq_true am
           have q848 : x6_1 < (l0.length : Int) := of_decide_eq_true am
           obtain ⟨ad848, e848, hx848_0⟩ := Kd.at_int HR0.out x6_1 p848 q848
           cases e848
           replace p848 := eq_true p848
           replace q848 := eq_true q848
           go_wp2_with (first | ((with_reducible refine gate_callee (f := 156) rfl ?_); refine gl (some 23) Try.func156 #[.int .i64 (rd l0 x6_1)] ?_; (with_reducible refine (spec_l01Value.calls (rd l0 x6_1) true _ A5.out).mono ?_); rintro e w' ⟨rfl, ⟨nd, rfl⟩⟩; refine ⟨_, rfl, ?_⟩))
           go_roundg k1
           case measure => have := HK1.out; omega
           case rel => exact ⟨(wrap64 (x6_1 + 1)), es, H', ⟨kp⟩, dr0⟩
         · replace c6 := Bool.eq_false_iff.mpr c6
           subst c6
           replace H := iF H
           simp only [Option.some.injEq, Prod.mk.injEq] at H
           obtain ⟨rfl, rfl⟩ := H
           have p848 : 0 ≤ (x6_1 : Int) := of_decide_eq_true am
           have q848 : x6_1 < (l0.length : Int) := of_decide_eq_true am
           obtain ⟨ad848, e848, hx848_0⟩ := Kd.at_int HR0.out x6_1 p848 q848
           cases e848
           replace p848 := eq_true p848
           replace q848 := eq_true q848
           go_wp2_with (first | ((with_reducible refine gate_callee (f := 156) rfl ?_); refine gl (some 23) Try.func156 #[.int .i64 (rd l0 x6_1)] ?_; (with_reducible refine (spec_l01Value.calls (rd l0 x6_1) false _ A5.out).mono ?_); rintro e w' ⟨rfl, ⟨nd, rfl⟩⟩; refine ⟨_, rfl, ?_⟩))
           go_ret2
           exact ⟨es, dr0⟩
       · rw [if_neg c4] at H
         exact absurd H (by simp)
     · rw [if_neg c3] at H
       have c3b0 : decide (x6_1 < (l0.length : Int)) = false := decide_eq_false c3
       clear c3
       have H' := Aside0.mk H
       clear H
       go_wp2
       go_loopg [4, 5, 7] k1 (fun kq v4 v5 v7 w' => ∃ (x4_2 : Int) (x5_2 : Bool) (x7_2 : Int), v4 = .int .i64 x4_2 ∧ v5 = .bool x5_2 ∧ v7 = .int .i64 x7_2 ∧ Aside0 (spec_AddValues.l1 kq l0 x4_2 x5_2 x7_2 = some (r1, r2)) ∧ Aside0 (kq ≤ k1) ∧ Drawn0 w w')
       case atStart => exact ⟨(0), (false), (0), es, es, es, H', ⟨Nat.le_refl _⟩, dr0⟩
       case round =>
        clear H'
        try clear c1
        try clear c2
        try clear c2b0
        try clear c2b1
        try clear p2
        try clear c3
        try clear c3b0
        try clear c4
        try clear c4b0
        try clear c6
        try clear p6
        try clear hx848_0
        try clear p2
        try clear p848
        try clear q848
        obtain ⟨x4_2, x5_2, x7_2, rfl, rfl, rfl, HA, HK2, ⟨m2, rfl⟩⟩ := hrel
        cases gk with
        | zero => exact absurd HA.out (by simp [spec_AddValues.l1])
        | succ k2 =>
         have H := HA.out
         clear HA
         simp only [spec_AddValues.l1] at H
         by_cases c7 : x7_2 < (l0.length : Int)
         · rw [if_pos c7] at H
           have c7b0 : decide (x7_2 < (l0.length : Int)) = true := decide_eq_true c7
           clear c7
           by_cases c8 : 0 ≤ x7_2
           · rw [if_pos c8] at H
             have c8b0 : decide (0 ≤ x7_2) = true := decide_eq_true c8
             clear c8
             replace H := Option.bind_eq_some_iff.mp H
             obtain ⟨⟨t851, t852⟩, A90, H⟩ := H
             replace H : (if x5_2 = true then (spec_AddValues.l1 k2 l0 t851 true (wrap64 (x7_2 + 1))) else (spec_AddValues.l1 k2 l0 t851 t852 (wrap64 (x7_2 + 1)))) = some (r1, r2) := H
             have A9 := Aside0.mk A90
             clear A90
             by_cases c10 : x5_2 = true
             · subst c10
               replace H := iT H
               have H' := Aside0.mk H
               clear H
               have p850 : 0 ≤ (x7_2 : Int) := of_decide_eq_true am
               have q850 : x7_2 < (l0.length : Int) := of_decide_eq_true am
               obtain ⟨ad850, e850, hx850_0⟩ := Kd.at_int HR0.out x7_2 p850 q850
               cases e850
               replace p850 := eq_true p850
               replace q850 := eq_true q850
               go_wp2_with (first | ((with_reducible refine gate_callee (f := 157) rfl ?_); refine gl (some 38) Try.func157 #[.int .i64 (wrap64 (x4_2 + (rd l0 x7_2)))] ?_; (with_reducible refine (spec_CutValue.calls (wrap64 (x4_2 + (rd l0 x7_2))) t851 t852 _ A9.out).mono ?_); rintro e w' ⟨rfl, ⟨nd, rfl⟩⟩; refine ⟨_, rfl, ?_⟩))
               go_roundg k2
               case measure => have := HK1.out; have := HK2.out; omega
               case rel => exact ⟨(t851), (true), (wrap64 (x7_2 + 1)), es, es, es, H', ⟨by have := HK1.out; have := HK2.out; omega⟩, dr0⟩
             · replace c10 := Bool.eq_false_iff.mpr c10
               subst c10
               replace H := iF H
               have H' := Aside0.mk H
               clear H
               have p850 : 0 ≤ (x7_2 : Int) := of_decide_eq_true am
               have q850 : x7_2 < (l0.length : Int) := of_decide_eq_true am
               obtain ⟨ad850, e850, hx850_0⟩ := Kd.at_int HR0.out x7_2 p850 q850
               cases e850
               replace p850 := eq_true p850
               replace q850 := eq_true q850
               go_wp2_with (first | ((with_reducible refine gate_callee (f := 157) rfl ?_); refine gl (some 38) Try.func157 #[.int .i64 (wrap64 (x4_2 + (rd l0 x7_2)))] ?_; (with_reducible refine (spec_CutValue.calls (wrap64 (x4_2 + (rd l0 x7_2))) t851 t852 _ A9.out).mono ?_); rintro e w' ⟨rfl, ⟨nd, rfl⟩⟩; refine ⟨_, rfl, ?_⟩))
               go_roundg k2
               case measure => have := HK1.out; have := HK2.out; omega
               case rel => exact ⟨(t851), (t852), (wrap64 (x7_2 + 1)), es, es, es, H', ⟨by have := HK1.out; have := HK2.out; omega⟩, dr0⟩
           · rw [if_neg c8] at H
             exact absurd H (by simp)
         · rw [if_neg c7] at H
           have c7b0 : decide (x7_2 < (l0.length : Int)) = false := decide_eq_false c7
           clear c7
           simp only [Option.some.injEq, Prod.mk.injEq] at H
           obtain ⟨rfl, rfl⟩ := H
           go_wp2
           go_ret2
           exact ⟨es, dr0⟩

end Go.Proofs.Ytplekidnlofioaa.Q
namespace Go.Proofs.Ytplekidnlofioaa.Q
open Go.RowKit Go.Proofs.YtplekidnlofioaaW.PrintWords Go.Proofs.YtplekidnlofioaaW.PrintLast Go.Proofs.YtplekidnlofioaaW.PrintMore
attribute [local go_sem] max2_int min2_int max_two min_two max_three min_three max_four min_four   -- for this text's walks alone
set_option linter.unusedVariables false
set_option linter.unusedSimpArgs false

/-! ### spec_FloorDiv: function 184 -/
def spec_FloorDiv.f (a0 : Int) (a1 : Int) : Option (Int) := if a1 < 1 then (some 0) else (if a1 = 0 then (none) else (if (Int.tmod a0 a1) < 0 then (some (wrap64 ((wrap64 (Int.tdiv a0 a1)) - 1))) else (some (wrap64 (Int.tdiv a0 a1)))))
set_option maxHeartbeats 8000000 in
set_option maxRecDepth 100000 in
theorem spec_FloorDiv.calls (a0 : Int) (a1 : Int) (r : Int) (w : World) (h : spec_FloorDiv.f a0 a1 = some r) :
 Calls Try.prog 184 #[.int .i64 a0, .int .i64 a1] w fun e w' => e = .returned (.int .i64 r) ∧ Drawn0 w w' := by
 have H : (if a1 < 1 then (some 0) else (if a1 = 0 then (none) else (if (Int.tmod a0 a1) < 0 then (some (wrap64 ((wrap64 (Int.tdiv a0 a1)) - 1))) else (some (wrap64 (Int.tdiv a0 a1)))))) = some r := h
 clear h
 by_cases c3 : a1 < 1
 · rw [if_pos c3] at H
   have c3b0 : decide (a1 < 1) = true := decide_eq_true c3
   clear c3
   obtain rfl := Option.some.inj H
   go_enter Try.func184, Try.ntmps184
   go_wp2
   go_ret
   exact ⟨es, dr0⟩
 · rw [if_neg c3] at H
   have c3b0 : decide (a1 < 1) = false := decide_eq_false c3
   clear c3
   by_cases c4 : a1 = 0
   · rw [if_pos c4] at H
     exact absurd H (by simp)
   · rw [if_neg c4] at H
     have c4b0 : (a1 == 0) = false := beq_eq_false_iff_ne.mpr c4
     have c4b1 : (a1 != 0) = true := bne_iff_ne.mpr c4
     by_cases c5 : (Int.tmod a0 a1) < 0
     · rw [if_pos c5] at H
       have c5b0 : decide ((Int.tmod a0 a1) < 0) = true := decide_eq_true c5
       clear c5
       obtain rfl := Option.some.inj H
       go_enter Try.func184, Try.ntmps184
       go_wp2
       go_ret
       exact ⟨es, dr0⟩
     · rw [if_neg c5] at H
       have c5b0 : decide ((Int.tmod a0 a1) < 0) = false := decide_eq_false c5
       clear c5
       obtain rfl := Option.some.inj H
       go_enter Try.func184, Try.ntmps184
       go_wp2
       go_ret
       exact ⟨es, dr0⟩

end Go.Proofs.Ytplekidnlofioaa.Q
namespace Go.Proofs.Ytplekidnlofioaa.Q
open Go.RowKit Go.Proofs.YtplekidnlofioaaW.PrintWords Go.Proofs.YtplekidnlofioaaW.PrintLast Go.Proofs.YtplekidnlofioaaW.PrintMore
attribute [local go_sem] max2_int min2_int max_two min_two max_three min_three max_four min_four   -- for this text's walks alone
set_option linter.unusedVariables false
set_option linter.unusedSimpArgs false

/-! ### spec_MeanOf: function 155 -/
def spec_MeanOf.f (k : Nat) (l0 : List Int) : Option (Int × Bool) := (spec_AddValues.f k l0).bind fun bt853 => (if (l0.length : Int) = 0 then (some (0, false)) else (if bt853.2 = true then (some (0, false)) else ((spec_FloorDiv.f bt853.1 (l0.length : Int)).bind fun t855 => (some (t855, true)))))
theorem spec_MeanOf.mono : ∀ a0 k, LeO (spec_MeanOf.f k a0) (spec_MeanOf.f (k + 1) a0) := by
 intro a0 k
 unfold spec_MeanOf.f
 repeat' first
  | (with_reducible exact spec_AddValues.mono _ _)
  | (with_reducible exact LeO.refl _)
  | (with_reducible exact LeO.none _)
  | (with_reducible refine LeO.ite ?_ ?_)
  | (with_reducible refine LeO.bind ?_ (fun _ => ?_))
  | exact spec_AddValues.mono _ _
  | exact LeO.none _
  | refine LeO.ite ?_ ?_
  | refine LeO.bind ?_ (fun _ => ?_)
set_option maxHeartbeats 8000000 in
set_option maxRecDepth 100000 in
theorem spec_MeanOf.calls (k : Nat) (A0 : Option Addr) (c0 : Nat) (l0 : List Int) (r1 : Int) (r2 : Bool) (w : World) (hr0 : Kd.C (Kd.int .i64) w A0 l0.length l0) (hc0 : l0.length ≤ c0) (h : spec_MeanOf.f k l0 = some (r1, r2)) :
 Calls Try.prog 155 #[.slice A0 l0.length c0] w fun e w' => e = .returned (.tuple #[.int .i64 r1, .bool r2]) ∧ Drawn0 w w' := by
 have HR0 := Aside0.mk hr0
 have HC0 := Aside0.mk hc0
 clear hr0 hc0
 have H : ((spec_AddValues.f k l0).bind fun bt853 => (if (l0.length : Int) = 0 then (some (0, false)) else (if bt853.2 = true then (some (0, false)) else ((spec_FloorDiv.f bt853.1 (l0.length : Int)).bind fun t855 => (some (t855, true)))))) = some (r1, r2) := h
 clear h
 replace H := Option.bind_eq_some_iff.mp H
 obtain ⟨⟨t853, t854⟩, A20, H⟩ := H
 replace H : (if (l0.length : Int) = 0 then (some (0, false)) else (if t854 = true then (some (0, false)) else ((spec_FloorDiv.f t853 (l0.length : Int)).bind fun t855 => (some (t855, true))))) = some (r1, r2) := H
 have A2 := Aside0.mk A20
 clear A20
 by_cases c3 : (l0.length : Int) = 0
 · rw [if_pos c3] at H
   have c3b0 : ((l0.length : Int) == 0) = true := beq_iff_eq.mpr c3
   have c3b1 : ((l0.length : Int) != 0) = false := bne_eq_false_iff_eq.mpr c3
   clear c3
   simp only [Option.some.injEq, Prod.mk.injEq] at H
   obtain ⟨rfl, rfl⟩ := H
   go_enter Try.func155, Try.ntmps155
   go_wp2_with (first | ((with_reducible refine gate_callee (f := 104) rfl ?_); refine gl (some 8) Try.func104 #[.slice A0 l0.length c0] ?_; (with_reducible refine (spec_AddValues.calls k _ _ l0 t853 t854 _ ?side1 ?side2 A2.out).mono ?_); (case side1 => repeat (first | exact HR0.out | (with_reducible refine Kd.C_alloc ?_ _) | (with_reducible refine Kd.C_drewN ?_ _) | (with_reducible refine Kd.C_drew ?_))); (case side2 => exact HC0.out); rintro e w' ⟨rfl, ⟨nd, rfl⟩⟩; refine ⟨_, rfl, ?_⟩))
   go_ret2
   exact ⟨es, dr0⟩
 · rw [if_neg c3] at H
   have c3b0 : ((l0.length : Int) == 0) = false := beq_eq_false_iff_ne.mpr c3
   have c3b1 : ((l0.length : Int) != 0) = true := bne_iff_ne.mpr c3
   have c3b2 : ¬ (l0 = []) := fun h_ => c3 (by rw [h_]; rfl)
   by_cases c4 : t854 = true
   · subst c4
     replace H := iT H
     simp only [Option.some.injEq, Prod.mk.injEq] at H
     obtain ⟨rfl, rfl⟩ := H
     go_enter Try.func155, Try.ntmps155
     go_wp2_with (first | ((with_reducible refine gate_callee (f := 104) rfl ?_); refine gl (some 8) Try.func104 #[.slice A0 l0.length c0] ?_; (with_reducible refine (spec_AddValues.calls k _ _ l0 t853 true _ ?side1 ?side2 A2.out).mono ?_); (case side1 => repeat (first | exact HR0.out | (with_reducible refine Kd.C_alloc ?_ _) | (with_reducible refine Kd.C_drewN ?_ _) | (with_reducible refine Kd.C_drew ?_))); (case side2 => exact HC0.out); rintro e w' ⟨rfl, ⟨nd, rfl⟩⟩; refine ⟨_, rfl, ?_⟩))
     go_ret2
     exact ⟨es, dr0⟩
   · replace c4 := Bool.eq_false_iff.mpr c4
     subst c4
     replace H := iF H
     obtain ⟨t855, A50, H⟩ := bo H
     have A5 := Aside0.mk A50
     clear A50
     simp only [Option.some.injEq, Prod.mk.injEq] at H
     obtain ⟨rfl, rfl⟩ := H
     go_enter Try.func155, Try.ntmps155
     go_wp2_with (first | ((with_reducible refine gate_callee (f := 104) rfl ?_); refine gl (some 8) Try.func104 #[.slice A0 l0.length c0] ?_; (with_reducible refine (spec_AddValues.calls k _ _ l0 t853 false _ ?side1 ?side2 A2.out).mono ?_); (case side1 => repeat (first | exact HR0.out | (with_reducible refine Kd.C_alloc ?_ _) | (with_reducible refine Kd.C_drewN ?_ _) | (with_reducible refine Kd.C_drew ?_))); (case side2 => exact HC0.out); rintro e w' ⟨rfl, ⟨nd, rfl⟩⟩; refine ⟨_, rfl, ?_⟩) | ((with_reducible refine gate_callee (f := 184) rfl ?_); refine gl (some 20) Try.func184 #[.int .i64 t853, .int .i64 (l0.length : Int)] ?_; (with_reducible refine (spec_FloorDiv.calls t853 (l0.length : Int) t855 _ A5.out).mono ?_); rintro e w' ⟨rfl, ⟨nd, rfl⟩⟩; refine ⟨_, rfl, ?_⟩))
     go_ret2
     exact ⟨es, dr0⟩

end Go.Proofs.Ytplekidnlofioaa.Q
namespace Go.Proofs.Ytplekidnlofioaa.Q
open Go.RowKit Go.Proofs.YtplekidnlofioaaW.PrintWords Go.Proofs.YtplekidnlofioaaW.PrintLast Go.Proofs.YtplekidnlofioaaW.PrintMore
attribute [local go_sem] max2_int min2_int max_two min_two max_three min_three max_four min_four   -- for this text's walks alone
set_option linter.unusedVariables false
set_option linter.unusedSimpArgs false

/-! ### spec_AverageOf: function 102 -/
def spec_AverageOf.l0 : Nat → Int → Int → List Int → List (S37) → Int → Option (Int × Bool)
 | 0, _, _, _, _, _ => none
 | k + 1, x3, x4, x12, x13, x15 => if x15 < (x13.length : Int) then (if 0 ≤ x15 then (if ((rd_T37 x13 x15).f0) > x3 then (if ((rd_T37 x13 x15).f0) ≤ x4 then (if x12.length < 17592186044416 then (spec_AverageOf.l0 k x3 x4 (x12 ++ [(rd_T37 x13 x15).f1]) x13 (wrap64 (x15 + 1))) else (none)) else (spec_AverageOf.l0 k x3 x4 x12 x13 (wrap64 (x15 + 1)))) else (spec_AverageOf.l0 k x3 x4 x12 x13 (wrap64 (x15 + 1)))) else (none)) else ((spec_MeanOf.f k x12).bind fun bt869 => (some (bt869.1, bt869.2)))
def spec_AverageOf.f (k : Nat) (l0 : List (S81)) (a1 : ByteArray) (a2 : ByteArray) (a3 : Int) (a4 : Int) : Option (Int × Bool) := (spec_SeriesOf.f k l0 a1 a2).bind fun bt859 => (spec_AverageOf.l0 k a3 a4 (([] : List Int)) bt859.1 0)
theorem spec_AverageOf.mono_l : ∀ k, (∀ y0 y1 y2 y3 y4, LeO (spec_AverageOf.l0 k y0 y1 y2 y3 y4) (spec_AverageOf.l0 (k + 1) y0 y1 y2 y3 y4))
 | 0 => fun _ _ _ _ _ r h => by simp [spec_AverageOf.l0] at h
 | k + 1 => by
  have ih0 := spec_AverageOf.mono_l k
  · intro y0 y1 y2 y3 y4
    unfold spec_AverageOf.l0
    repeat' first
    | (with_reducible exact ih0 _ _ _ _ _)
    | (with_reducible exact spec_MeanOf.mono _ _)
    | (with_reducible exact spec_SeriesOf.mono _ _ _ _)
    | (with_reducible exact LeO.refl _)
    | (with_reducible exact LeO.none _)
    | (with_reducible refine LeO.ite ?_ ?_)
    | (with_reducible refine LeO.bind ?_ (fun _ => ?_))
    | exact ih0 _ _ _ _ _
    | exact spec_MeanOf.mono _ _
    | exact spec_SeriesOf.mono _ _ _ _
    | exact LeO.none _
    | refine LeO.ite ?_ ?_
    | refine LeO.bind ?_ (fun _ => ?_)
theorem spec_AverageOf.mono : ∀ a0 a1 a2 a3 a4 k, LeO (spec_AverageOf.f k a0 a1 a2 a3 a4) (spec_AverageOf.f (k + 1) a0 a1 a2 a3 a4) := by
 intro a0 a1 a2 a3 a4 k
 have ih0 := spec_AverageOf.mono_l k
 unfold spec_AverageOf.f
 repeat' first
  | (with_reducible exact ih0 _ _ _ _ _)
  | (with_reducible exact spec_MeanOf.mono _ _)
  | (with_reducible exact spec_SeriesOf.mono _ _ _ _)
  | (with_reducible exact LeO.refl _)
  | (with_reducible exact LeO.none _)
  | (with_reducible refine LeO.ite ?_ ?_)
  | (with_reducible refine LeO.bind ?_ (fun _ => ?_))
  | exact ih0 _ _ _ _ _
  | exact spec_MeanOf.mono _ _
  | exact spec_SeriesOf.mono _ _ _ _
  | exact LeO.none _
  | refine LeO.ite ?_ ?_
  | refine LeO.bind ?_ (fun _ => ?_)
set_option maxHeartbeats 8000000 in
set_option maxRecDepth 100000 in
theorem spec_AverageOf.calls (k : Nat) (A0 : Option Addr) (c0 : Nat) (l0 : List (S81)) (a1 : ByteArray) (a2 : ByteArray) (a3 : Int) (a4 : Int) (r1 : Int) (r2 : Bool) (w : World) (hr0 : Kd.C k81 w A0 l0.length l0) (hc0 : l0.length ≤ c0) (h : spec_AverageOf.f k l0 a1 a2 a3 a4 = some (r1, r2)) :
 Calls Try.prog 102 #[.slice A0 l0.length c0, .string a1, .string a2, .int .i64 a3, .int .i64 a4] w fun e w' => e = .returned (.tuple #[.int .i64 r1, .bool r2]) ∧ Below w.heap.size w w' := by
 have HR0 := Aside0.mk hr0
 have HC0 := Aside0.mk hc0
 clear hr0 hc0
 have HB := Aside0.mk (Below.refl w.heap.size w)
 have H : ((spec_SeriesOf.f k l0 a1 a2).bind fun bt859 => (spec_AverageOf.l0 k a3 a4 (([] : List Int)) bt859.1 0)) = some (r1, r2) := h
 clear h
 obtain ⟨y856, hy856⟩ : ∃ y_ : List Int, y_ = (([] : List Int)) := ⟨_, rfl⟩
 replace H : ((spec_SeriesOf.f k l0 a1 a2).bind fun bt859 => (spec_AverageOf.l0 k a3 a4 y856 bt859.1 0)) = some (r1, r2) := by first | (rw [hy856]; with_reducible exact H) | (have H2_ := (Option.bind_some _ _).symm.trans H; rw [hy856]; with_reducible exact H2_) | (have H2_ := (Option.bind_some _ _).symm.trans H; with_reducible exact H2_) | with_reducible exact H | (rw [hy856]; exact H) | exact H
 have Ny856 := Aside0.mk hy856
 clear hy856
 replace H := Option.bind_eq_some_iff.mp H
 obtain ⟨⟨t859, t860⟩, A60, H⟩ := H
 replace H : (spec_AverageOf.l0 k a3 a4 y856 t859 0) = some (r1, r2) := H
 have A6 := Aside0.mk A60
 clear A60
 have H' := Aside0.mk H
 clear H
 go_enter Try.func102, Try.ntmps102
 go_wp2_with (first | ((with_reducible refine gate_dst (N := 16) rfl ?_); refine Kd.R_lit (Kd.int .i64) _ 3 ?hg (N := 16) ?hd (xs := ([] : List Int)) (inner := []) (ok := fun _ => True) (okp := fun _ => True) ?hr ?hp (fun _ hk => hk) trivial (Below.refl _ _) (Nat.le_refl _) (by simp) ?_; (case hd => rfl); (case hg => rfl); (case hr => first | (go_simp; done) | (go_simp; rfl)); (case hp => exact (Reps.none _ _)); intro v857 w7 ho8 hb hg_ hnew_; clear hg_ hnew_; (first | rw [← Ny856.out] at ho8 | (simp only [Int.reduceToNat] at ho8; rw [← Ny856.out] at ho8)); have HO858 := ak (Kd.R_lower ho8 (below_size bl)); replace HB := ak (below_step bl hb); clear hb ho8) | ((with_reducible refine gate_callee (f := 154) rfl ?_); refine gl (some 21) Try.func154 #[.slice A0 l0.length c0, .string a1, .string a2] ?_; (with_reducible refine (spec_SeriesOf.calls k _ _ l0 a1 a2 t859 t860 _ ?side1 ?side2 A6.out).mono ?_); (case side1 => exact cb HR0); (case side2 => exact HC0.out); rintro e w9 ⟨v861, rfl, ho0, hb⟩; refine ⟨_, rfl, ?_⟩; replace HO858 := ak (Kd.R_below (kr HO858) hb); have HO862 := ak (Kd.R_lower ho0 (below_size bl)); replace HB := ak (below_step bl hb); (try clear hb); (try clear hb2); (try clear hk); (try clear hi); (try clear ho0)))
 go_loopg [12, 15] k (fun kq v12 v15 w' => ∃ (x12_1 : List Int) (x15_1 : Int), v15 = .int .i64 x15_1 ∧ Aside0 (spec_AverageOf.l0 kq a3 a4 x12_1 t859 x15_1 = some (r1, r2)) ∧ Aside0 (kq ≤ k) ∧ Aside0 (Kd.R (Kd.int .i64) 3 w' w.heap.size (fun _ => True) v12 x12_1) ∧ Aside0 (Kd.R k37 37 w' w.heap.size (fun _ => True) v861 t859) ∧ Aside0 (Below w.heap.size w w'))
 case atStart => exact ⟨(y856), (0), es, H', ⟨Nat.le_refl _⟩, ⟨kr HO858⟩, ⟨kr HO862⟩, ⟨bl⟩⟩
 case round =>
  clear H'
  try clear c1
  try clear p2
  obtain ⟨x12_1, x15_1, rfl, HA, HK1, HO_12, HO_13, HB⟩ := hrel
  cases gk with
  | zero => exact absurd HA.out (by simp [spec_AverageOf.l0])
  | succ k1 =>
   have H := HA.out
   clear HA
   simp only [spec_AverageOf.l0] at H
   by_cases c10 : x15_1 < (t859.length : Int)
   · rw [if_pos c10] at H
     have c10b0 : decide (x15_1 < (t859.length : Int)) = true := decide_eq_true c10
     clear c10
     by_cases c11 : 0 ≤ x15_1
     · rw [if_pos c11] at H
       have c11b0 : decide (0 ≤ x15_1) = true := decide_eq_true c11
       clear c11
       by_cases c12 : ((rd_T37 t859 x15_1).f0) > a3
       · rw [if_pos c12] at H
         have c12b0 : decide (a3 < ((rd_T37 t859 x15_1).f0)) = true := decide_eq_true c12
         clear c12
         by_cases c13 : ((rd_T37 t859 x15_1).f0) ≤ a4
         · rw [if_pos c13] at H
           have c13b0 : decide (((rd_T37 t859 x15_1).f0) ≤ a4) = true := decide_eq_true c13
           clear c13
           by_cases c14 : x12_1.length < 17592186044416
           · rw [if_pos c14] at H
             have LMc14 := Aside0.mk c14
             clear c14
             obtain ⟨y866, hy866⟩ : ∃ y_ : List Int, y_ = (x12_1 ++ [(rd_T37 t859 x15_1).f1]) := ⟨_, rfl⟩
             replace H : (spec_AverageOf.l0 k1 a3 a4 y866 t859 (wrap64 (x15_1 + 1))) = some (r1, r2) := by first | (rw [hy866]; with_reducible exact H) | (have H2_ := (Option.bind_some _ _).symm.trans H; rw [hy866]; with_reducible exact H2_) | (have H2_ := (Option.bind_some _ _).symm.trans H; with_reducible exact H2_) | with_reducible exact H | (rw [hy866]; exact H) | exact H
             have Ny866 := Aside0.mk hy866
             clear hy866
             have H' := Aside0.mk H
             clear H
             obtain ⟨Ao15, co15, eo15⟩ := Kd.R_slice HO_13.out
             subst eo15
             have p863 : 0 ≤ (x15_1 : Int) := of_decide_eq_true am
             have q863 : x15_1 < (t859.length : Int) := of_decide_eq_true am
             obtain ⟨ad863, e863, hx863_0, hx863_1⟩ := at_T37 (Kd.R_reads' HO_13.out).2.2 x15_1 p863 q863
             cases e863
             replace p863 := eq_true p863
             replace q863 := eq_true q863
             have p864 : 0 ≤ (x15_1 : Int) := of_decide_eq_true am
             have q864 : x15_1 < (t859.length : Int) := of_decide_eq_true am
             obtain ⟨ad864, e864, hx864_0, hx864_1⟩ := at_T37 (Kd.R_reads' HO_13.out).2.2 x15_1 p864 q864
             obtain rfl : ad863 = ad864 := (by injection e864)
             replace p864 := eq_true p864
             replace q864 := eq_true q864
             have p865 : 0 ≤ (x15_1 : Int) := of_decide_eq_true am
             have q865 : x15_1 < (t859.length : Int) := of_decide_eq_true am
             obtain ⟨ad865, e865, hx865_0, hx865_1⟩ := at_T37 (Kd.R_reads' HO_13.out).2.2 x15_1 p865 q865
             obtain rfl : ad863 = ad865 := (by injection e865)
             replace p865 := eq_true p865
             replace q865 := eq_true q865
             go_wp2_with (first | ((with_reducible refine gate_builtin (b := .append) (xs := #[.tmp 46, .tmp 52]) rfl ?_); at_builtin; refine Kd.R_append (Kd.int .i64) (w0 := w) w.heap.size rfl (.tmp 46) (.tmp 52) 25 3 (.int .i64 0) 8 rfl Try.underlying25 info3 rfl (by decide) (by omega) u12 x12_1 ((rd_T37 t859 x15_1).f1) [.int .i64 ((rd_T37 t859 x15_1).f1)] (fun _ => True) (fun _ => False) rfl rfl ?aP (fun _ hk => hk.elim) ?aF ?aO ?aB ?aS ?aL ?_; (case aP => exact rfl); (case aB => exact bl); (case aF => exact (fun _ _ => trivial)); (case aO => exact (kr HO_12)); (case aS => exact (below_size bl)); (case aL => have := LMc14.out; omega); intro v867 w16 ho hb hg hat; rw [← Ny866.out] at ho; replace HO_13 := ak (Kd.R_over' (kr HO_13) (Kd.R_typed (kr HO_12)) (by decide) hg); replace HB := ak hb; have HO868 := ak ho; clear HO_12; clear ho hb hg hat))
             go_roundg k1
             case measure => have := HK1.out; omega
             case rel => exact ⟨(y866), (wrap64 (x15_1 + 1)), es, H', ⟨kp⟩, ⟨kr HO868⟩, ⟨kr HO_13⟩, ⟨bl⟩⟩
           · rw [if_neg c14] at H
             exact absurd H (by simp)
         · rw [if_neg c13] at H
           have c13b0 : decide (((rd_T37 t859 x15_1).f0) ≤ a4) = false := decide_eq_false c13
           clear c13
           have H' := Aside0.mk H
           clear H
           obtain ⟨Ao17, co17, eo17⟩ := Kd.R_slice HO_13.out
           subst eo17
           have p863 : 0 ≤ (x15_1 : Int) := of_decide_eq_true am
           have q863 : x15_1 < (t859.length : Int) := of_decide_eq_true am
           obtain ⟨ad863, e863, hx863_0, hx863_1⟩ := at_T37 (Kd.R_reads' HO_13.out).2.2 x15_1 p863 q863
           cases e863
           replace p863 := eq_true p863
           replace q863 := eq_true q863
           have p864 : 0 ≤ (x15_1 : Int) := of_decide_eq_true am
           have q864 : x15_1 < (t859.length : Int) := of_decide_eq_true am
           obtain ⟨ad864, e864, hx864_0, hx864_1⟩ := at_T37 (Kd.R_reads' HO_13.out).2.2 x15_1 p864 q864
           obtain rfl : ad863 = ad864 := (by injection e864)
           replace p864 := eq_true p864
           replace q864 := eq_true q864
           go_wp2
           go_roundg k1
           case measure => have := HK1.out; omega
           case rel => exact ⟨(x12_1), (wrap64 (x15_1 + 1)), es, H', ⟨kp⟩, ⟨kr HO_12⟩, ⟨kr HO_13⟩, ⟨bl⟩⟩
       · rw [if_neg c12] at H
         have c12b0 : decide (a3 < ((rd_T37 t859 x15_1).f0)) = false := decide_eq_false c12
         clear c12
         have H' := Aside0.mk H
         clear H
         obtain ⟨Ao18, co18, eo18⟩ := Kd.R_slice HO_13.out
         subst eo18
         have p863 : 0 ≤ (x15_1 : Int) := of_decide_eq_true am
         have q863 : x15_1 < (t859.length : Int) := of_decide_eq_true am
         obtain ⟨ad863, e863, hx863_0, hx863_1⟩ := at_T37 (Kd.R_reads' HO_13.out).2.2 x15_1 p863 q863
         cases e863
         replace p863 := eq_true p863
         replace q863 := eq_true q863
         go_wp2
         go_roundg k1
         case measure => have := HK1.out; omega
         case rel => exact ⟨(x12_1), (wrap64 (x15_1 + 1)), es, H', ⟨kp⟩, ⟨kr HO_12⟩, ⟨kr HO_13⟩, ⟨bl⟩⟩
     · rw [if_neg c11] at H
       exact absurd H (by simp)
   · rw [if_neg c10] at H
     have c10b0 : decide (x15_1 < (t859.length : Int)) = false := decide_eq_false c10
     clear c10
     replace H := Option.bind_eq_some_iff.mp H
     obtain ⟨⟨t869, t870⟩, A190, H⟩ := H
     replace H : (some (t869, t870)) = some (r1, r2) := H
     have A19 := Aside0.mk A190
     clear A190
     simp only [Option.some.injEq, Prod.mk.injEq] at H
     obtain ⟨rfl, rfl⟩ := H
     obtain ⟨Ao20, co20, eo20⟩ := Kd.R_slice HO_13.out
     subst eo20
     obtain ⟨Ao21, co21, eo21⟩ := Kd.R_slice HO_12.out
     subst eo21
     go_wp2_with (first | ((with_reducible refine gate_callee (f := 155) rfl ?_); refine gl (some 55) Try.func155 #[.slice Ao21 x12_1.length co21] ?_; (with_reducible refine (spec_MeanOf.calls k1 _ _ x12_1 t869 t870 _ ?side1 ?side2 A19.out).mono ?_); (case side1 => repeat (first | exact (Kd.R_reads' HO_12.out).2.2 | (with_reducible refine Kd.C_alloc ?_ _) | (with_reducible refine Kd.C_drewN ?_ _) | (with_reducible refine Kd.C_drew ?_))); (case side2 => exact (Kd.R_reads' HO_12.out).2.1); rintro e w' ⟨rfl, ⟨nd, rfl⟩⟩; refine ⟨_, rfl, ?_⟩))
     go_ret2
     exact ⟨ew, bl⟩

end Go.Proofs.Ytplekidnlofioaa.Q
namespace Go.Proofs.Ytplekidnlofioaa.Q
open Go.RowKit Go.Proofs.YtplekidnlofioaaW.PrintWords Go.Proofs.YtplekidnlofioaaW.PrintLast Go.Proofs.YtplekidnlofioaaW.PrintMore
attribute [local go_sem] max2_int min2_int max_two min_two max_three min_three max_four min_four   -- for this text's walks alone
set_option linter.unusedVariables false
set_option linter.unusedSimpArgs false

/-! ### slices_Clone_impl_Point_impl_Point: function 66 -/
def slices_Clone_impl_Point_impl_Point.f (l0 : List (S37)) : Option ((List (S37))) := (some (([] : List (S37)) : List (S37))).bind fun y152 => (if y152.length + l0.length < 8796093022208 then (some (y152 ++ l0)) else (none))
set_option maxHeartbeats 8000000 in
set_option maxRecDepth 100000 in
theorem slices_Clone_impl_Point_impl_Point.calls_some (ad_ : Addr) (c0 : Nat) (l0 : List (S37)) (r : List (S37)) (w : World) (hr0 : Kd.C k37 w (some ad_) l0.length l0) (hc0 : l0.length ≤ c0) (h : slices_Clone_impl_Point_impl_Point.f l0 = some r) :
 Calls Try.prog 66 #[.slice (some ad_) l0.length c0] w fun e w' => ∃ v0_ : Value, e = .returned (v0_) ∧ Kd.R k37 37 w' w.heap.size (fun _ => True) v0_ r ∧ Below w.heap.size w w' := by
 have HR0 := Aside0.mk hr0
 have HC0 := Aside0.mk hc0
 clear hr0 hc0
 have HB := Aside0.mk (Below.refl w.heap.size w)
 have H : ((some (([] : List (S37)) : List (S37))).bind fun y152 => (if y152.length + l0.length < 8796093022208 then (some (y152 ++ l0)) else (none))) = some r := h
 clear h
 obtain ⟨y152, hy152⟩ : ∃ y_ : List (S37), y_ = (([] : List (S37))) := ⟨_, rfl⟩
 replace H : (if y152.length + l0.length < 8796093022208 then (some (y152 ++ l0)) else (none)) = some r := by first | (rw [hy152]; with_reducible exact H) | (have H2_ := (Option.bind_some _ _).symm.trans H; rw [hy152]; with_reducible exact H2_) | (have H2_ := (Option.bind_some _ _).symm.trans H; with_reducible exact H2_) | with_reducible exact H | (rw [hy152]; exact H) | exact H
 have Ny152 := Aside0.mk hy152
 clear hy152
 by_cases c2 : y152.length + l0.length < 8796093022208
 · rw [if_pos c2] at H
   have LMc2 := Aside0.mk c2
   clear c2
   obtain ⟨y155, hy155⟩ : ∃ y_ : List (S37), y_ = (y152 ++ l0) := ⟨_, rfl⟩
   replace H : (some y155) = some r := by first | (rw [hy155]; with_reducible exact H) | (have H2_ := (Option.bind_some _ _).symm.trans H; rw [hy155]; with_reducible exact H2_) | (have H2_ := (Option.bind_some _ _).symm.trans H; with_reducible exact H2_) | with_reducible exact H | (rw [hy155]; exact H) | exact H
   have Ny155 := Aside0.mk hy155
   clear hy155
   obtain rfl := Option.some.inj H
   have hnil := fun W : World => Lib.run_eql_slice_nil (P := Try.prog) W 31 37 (some ad_) l0.length c0 0 0 Try.underlying31
   go_enter Try.func66, Try.ntmps66
   go_wp2_with (first | ((with_reducible refine gate_dst (N := 5) rfl ?_); refine Kd.R_lit k37 _ 37 ?hg (N := 5) ?hd (xs := ([] : List (S37))) (inner := []) (ok := fun _ => True) (okp := fun _ => True) ?hr ?hp (fun _ hk => hk) trivial (Below.refl _ _) (Nat.le_refl _) (by simp) ?_; (case hd => rfl); (case hg => rfl); (case hr => first | (go_simp; done) | (go_simp; rfl)); (case hp => exact (Reps.none _ _)); intro v153 w3 ho4 hb hg_ hnew_; clear hg_ hnew_; (first | rw [← Ny152.out] at ho4 | (simp only [Int.reduceToNat] at ho4; rw [← Ny152.out] at ho4)); have HO154 := ak (Kd.R_lower ho4 (below_size bl)); replace HB := ak (below_step bl hb); clear hb ho4) | ((with_reducible refine gate_builtin (b := .append) (xs := #[.tmp 5, .tmp 6]) rfl ?_); at_builtin; refine Kd.R_append_rows k37 (w0 := w) w.heap.size rfl (.tmp 5) (.tmp 6) 31 37 (.agg #[(.int .i64 0), (.int .i64 0)]) 16 rfl Try.underlying31 info37 rfl (by decide) (by omega) v153 y152 l0 _ _ _ (fun _ => True) (fun _ => False) rfl rfl ?aO ?aR (fun _ _ h => h) (fun _ h => h.elim) ?aF ?aB ?aS ?aL ?_; (case aR => exact cb HR0); (case aB => exact bl); (case aF => exact (fun _ _ => trivial)); (case aO => exact (kr HO154)); (case aS => exact (below_size bl)); (case aL => have := LMc2.out; omega); intro v156 w5 ho hb hg hat; rw [← Ny155.out] at ho; replace HB := ak hb; have HO157 := ak ho; clear HO154; clear ho hb hg hat))
   go_ret
   exact ⟨_, ew, kr HO157, bl⟩
 · rw [if_neg c2] at H
   exact absurd H (by simp)
set_option maxHeartbeats 8000000 in
set_option maxRecDepth 100000 in
theorem slices_Clone_impl_Point_impl_Point.calls_nil (c0 : Nat) (r : List (S37)) (w : World) (h : slices_Clone_impl_Point_impl_Point.f [] = some r) :
 Calls Try.prog 66 #[.slice none 0 c0] w fun e w' => ∃ v0_ : Value, e = .returned (v0_) ∧ Kd.R k37 37 w' w.heap.size (fun _ => True) v0_ r ∧ Below w.heap.size w w' := by
 obtain rfl : r = [] := by have h_ := h; simp [slices_Clone_impl_Point_impl_Point.f] at h_; first | exact h_ | exact h_.symm
 have hnil := fun W : World => Lib.run_eql_slice_nil (P := Try.prog) W 31 37 none 0 c0 0 0 Try.underlying31
 go_enter Try.func66, Try.ntmps66
 go_wp2
 go_ret
 exact ⟨_, rfl, Kd.R_nil _ _ _ _ _, Below.refl _ _⟩
theorem slices_Clone_impl_Point_impl_Point.calls (A0 : Option Addr) (c0 : Nat) (l0 : List (S37)) (r : List (S37)) (w : World) (hr0 : Kd.C k37 w A0 l0.length l0) (hc0 : l0.length ≤ c0) (h : slices_Clone_impl_Point_impl_Point.f l0 = some r) :
 Calls Try.prog 66 #[.slice A0 l0.length c0] w fun e w' => ∃ v0_ : Value, e = .returned (v0_) ∧ Kd.R k37 37 w' w.heap.size (fun _ => True) v0_ r ∧ Below w.heap.size w w' := by
 cases A0 with
 | none =>
  obtain rfl : l0 = [] := by
   rcases l0 with _ | ⟨x_, xs_⟩
   · rfl
   · obtain ⟨ad_, _, e_, _⟩ := Kd.C_get hr0 x_ 0 (by decide) (by simp)
     cases e_
  exact slices_Clone_impl_Point_impl_Point.calls_nil c0 r w h
 | some ad_ => exact slices_Clone_impl_Point_impl_Point.calls_some ad_ c0 l0 r w hr0 hc0 h

end Go.Proofs.Ytplekidnlofioaa.Q
namespace Go.Proofs.Ytplekidnlofioaa.Q
open Go.RowKit Go.Proofs.YtplekidnlofioaaW.PrintWords Go.Proofs.YtplekidnlofioaaW.PrintLast Go.Proofs.YtplekidnlofioaaW.PrintMore
attribute [local go_sem] max2_int min2_int max_two min_two max_three min_three max_four min_four   -- for this text's walks alone
set_option linter.unusedVariables false
set_option linter.unusedSimpArgs false

/-! ### impl_pointsOf: function 67 -/
def impl_pointsOf.l0 : Nat → ByteArray → ByteArray → List (S81) → Int → Int → Option ((List (S37)))
 | 0, _, _, _, _, _ => none
 | k + 1, x1, x2, x9, x10, x11 => if x11 < x10 then (if 0 ≤ x11 then (if x11 < (x9.length : Int) then (if ((rd_T81 x9 x11).f0).toList = x1.toList then (if ((rd_T81 x9 x11).f1).toList = x2.toList then (some ((rd_T81 x9 x11).f2)) else (impl_pointsOf.l0 k x1 x2 x9 x10 (wrap64 (x11 + 1)))) else (impl_pointsOf.l0 k x1 x2 x9 x10 (wrap64 (x11 + 1)))) else (none)) else (none)) else (some ([] : List (S37)))
def impl_pointsOf.f (k : Nat) (l0 : List (S81)) (a1 : ByteArray) (a2 : ByteArray) : Option ((List (S37))) := impl_pointsOf.l0 k a1 a2 l0 (l0.length : Int) 0
theorem impl_pointsOf.mono_l : ∀ k, (∀ y0 y1 y2 y3 y4, LeO (impl_pointsOf.l0 k y0 y1 y2 y3 y4) (impl_pointsOf.l0 (k + 1) y0 y1 y2 y3 y4))
 | 0 => fun _ _ _ _ _ r h => by simp [impl_pointsOf.l0] at h
 | k + 1 => by
  have ih0 := impl_pointsOf.mono_l k
  · intro y0 y1 y2 y3 y4
    unfold impl_pointsOf.l0
    repeat' first
    | (with_reducible exact ih0 _ _ _ _ _)
    | (with_reducible exact LeO.refl _)
    | (with_reducible exact LeO.none _)
    | (with_reducible refine LeO.ite ?_ ?_)
    | (with_reducible refine LeO.bind ?_ (fun _ => ?_))
    | exact ih0 _ _ _ _ _
    | exact LeO.none _
    | refine LeO.ite ?_ ?_
    | refine LeO.bind ?_ (fun _ => ?_)
theorem impl_pointsOf.mono : ∀ a0 a1 a2 k, LeO (impl_pointsOf.f k a0 a1 a2) (impl_pointsOf.f (k + 1) a0 a1 a2) := by
 intro a0 a1 a2 k
 have ih0 := impl_pointsOf.mono_l k
 unfold impl_pointsOf.f
 repeat' first
  | (with_reducible exact ih0 _ _ _ _ _)
  | (with_reducible exact LeO.refl _)
  | (with_reducible exact LeO.none _)
  | (with_reducible refine LeO.ite ?_ ?_)
  | (with_reducible refine LeO.bind ?_ (fun _ => ?_))
  | exact ih0 _ _ _ _ _
  | exact LeO.none _
  | refine LeO.ite ?_ ?_
  | refine LeO.bind ?_ (fun _ => ?_)
set_option maxHeartbeats 8000000 in
set_option maxRecDepth 100000 in
theorem impl_pointsOf.calls (k : Nat) (P0_ : Nat → Prop) (A0 : Option Addr) (c0 : Nat) (l0 : List (S81)) (a1 : ByteArray) (a2 : ByteArray) (r : List (S37)) (w : World) (hs0 : Kd.V k81 81 w w.heap.size (fun k_ => P0_ k_) (.slice A0 l0.length c0) l0) (h : impl_pointsOf.f k l0 a1 a2 = some r) :
 Calls Try.prog 67 #[.slice A0 l0.length c0, .string a1, .string a2] w fun e w' => ∃ v0_ : Value, e = .returned (v0_) ∧ Kd.V k37 37 w' w.heap.size (fun k_ => (P0_ k_ ∨ w.heap.size ≤ k_)) v0_ r ∧ Below w.heap.size w w' := by
 have hu81 := Try.underlying81
 have HO0 := Aside0.mk (show Kd.V k81 81 w w.heap.size (fun k_ => (P0_ k_ ∨ w.heap.size ≤ k_)) (.slice A0 l0.length c0) l0 from Kd.V_mono hs0 (fun k_ hk => .inl hk))
 have HB := Aside0.mk (Below.refl w.heap.size w)
 have H : (impl_pointsOf.l0 k a1 a2 l0 (l0.length : Int) 0) = some r := h
 clear h
 have H' := Aside0.mk H
 clear H
 go_enter Try.func67, Try.ntmps67
 go_wp2
 go_loopg [11] k (fun kq v11 w' => ∃ (x11_1 : Int), v11 = .int .i64 x11_1 ∧ Aside0 (impl_pointsOf.l0 kq a1 a2 l0 (l0.length : Int) x11_1 = some r) ∧ Aside0 (kq ≤ k) ∧ Aside0 (Kd.V k81 81 w' w.heap.size (fun k_ => (P0_ k_ ∨ w.heap.size ≤ k_)) (.slice A0 l0.length c0) l0) ∧ Aside0 (Below w.heap.size w w'))
 case atStart => exact ⟨(0), es, H', ⟨Nat.le_refl _⟩, ⟨by (with_reducible repeat (first | apply Kd.V_alloc | apply Kd.V_drewN | apply Kd.V_drew)); exact HO0.out⟩, ⟨bl⟩⟩
 case round =>
  clear H'
  try clear p2
  obtain ⟨x11_1, rfl, HA, HK1, HO_9, HB⟩ := hrel
  cases gk with
  | zero => exact absurd HA.out (by simp [impl_pointsOf.l0])
  | succ k1 =>
   have H := HA.out
   clear HA
   simp only [impl_pointsOf.l0] at H
   by_cases c4 : x11_1 < (l0.length : Int)
   · rw [if_pos c4] at H
     have c4b0 : decide (x11_1 < (l0.length : Int)) = true := decide_eq_true c4
     clear c4
     by_cases c5 : 0 ≤ x11_1
     · rw [if_pos c5] at H
       have c5b0 : decide (0 ≤ x11_1) = true := decide_eq_true c5
       clear c5
       by_cases c6 : x11_1 < (l0.length : Int)
       · rw [if_pos c6] at H
         have c6b0 : decide (x11_1 < (l0.length : Int)) = true := decide_eq_true c6
         clear c6
         by_cases c7 : ((rd_T81 l0 x11_1).f0).toList = a1.toList
         · rw [if_pos c7] at H
           have c7b0 : (((rd_T81 l0 x11_1).f0).toList == a1.toList) = true := beq_iff_eq.mpr c7
           have c7b1 : (((rd_T81 l0 x11_1).f0).toList != a1.toList) = false := bne_eq_false_iff_eq.mpr c7
           clear c7
           by_cases c8 : ((rd_T81 l0 x11_1).f1).toList = a2.toList
           · rw [if_pos c8] at H
             have c8b0 : (((rd_T81 l0 x11_1).f1).toList == a2.toList) = true := beq_iff_eq.mpr c8
             have c8b1 : (((rd_T81 l0 x11_1).f1).toList != a2.toList) = false := bne_eq_false_iff_eq.mpr c8
             clear c8
             obtain rfl := Option.some.inj H
             have p170 : 0 ≤ (x11_1 : Int) := of_decide_eq_true am
             have q170 : x11_1 < (l0.length : Int) := of_decide_eq_true am
             obtain ⟨ad170, A170_2, c170_2, e170, hx170_0, hx170_1, hx170_2, hl170_2, hi170_2⟩ := at_T81 (Kd.V_reads' HO_9.out).2.2 x11_1 p170 q170
             cases e170
             obtain ⟨ce170, hce170, hMe170, hcc170⟩ := Kd.V_get HO_9.out z81 x11_1 p170 (by first | exact q170 | exact of_decide_eq_true am | (have e_ := (Kd.V_reads' HO_9.out).1; omega))
             obtain ⟨ua170_2, uc170_2, rfl, ul170_2, ge170_2⟩ := k81_openF hMe170
             have hv170_2 := hcc170 2 _ rfl
             rw [add_field _ _ 2 (by omega)] at hv170_2
             replace hv170_2 := Option.some.inj (hv170_2.symm.trans hx170_2)
             injection hv170_2 with hva_ hvn_ hvc_
             rw [hva_] at ge170_2
             rw [hvc_] at ul170_2
             have HL170_2 := Aside0.mk (show Kd.V k37 37 _ w.heap.size _ _ ((rd_T81 l0 x11_1).f2) from Kd.V_mk ul170_2 ge170_2)
             clear hva_ hvn_ hvc_ ge170_2 ul170_2
             clear hcc170 hce170
             have HR170_2 := Aside0.mk hi170_2
             have HC170_2 := Aside0.mk hl170_2
             clear hi170_2 hl170_2
             replace p170 := eq_true p170
             replace q170 := eq_true q170
             go_wp2_with (first | ((with_reducible refine gate_dst (N := 8) rfl ?_); refine bx 8 #[.string (⟨#[]⟩ : ByteArray), .string (⟨#[]⟩ : ByteArray), .slice none 0 0] 81 ?_; intro gb171 hg w9 hbox hb; replace HO_9 := ak (Kd.V_below (Kd.V_elderB (by (with_reducible repeat (first | apply Kd.V_alloc | apply Kd.V_drewN | apply Kd.V_drew)); exact HO_9.out) gb171 (Nat.le_of_eq hg.symm)) hb); replace HL170_2 := ak (Kd.V_below (Kd.V_elderB (by (with_reducible repeat (first | apply Kd.V_alloc | apply Kd.V_drewN | apply Kd.V_drew)); exact HL170_2.out) gb171 (Nat.le_of_eq hg.symm)) hb); replace HR170_2 := ak (Kd.C_below (by repeat (first | (with_reducible exact HR170_2.out) | (with_reducible refine Kd.C_alloc ?_ _) | (with_reducible refine Kd.C_drewN ?_ _) | (with_reducible refine Kd.C_drew ?_) | exact HR170_2.out)) hb); have BK171 := ak hbox; have GW171 := gs hg bl; have GE171 := gs hg bl; replace HB := ak (below_step bl hb); clear hb hbox hg; obtain ⟨hcz10_0, hcz10_1, hcz10_2, hfz10_0, hfz10_1, hfz10_2⟩ := cz3 BK171))
             go_ret
             exact ⟨_, ew, by (with_reducible repeat (first | apply Kd.V_alloc | apply Kd.V_drewN | apply Kd.V_drew)); exact Kd.V_mono (Kd.V_far (p := ⟨gb171, 2, none⟩) (Kd.V_far (p := ⟨gb171, 1, none⟩) (Kd.V_far (p := ⟨gb171, 0, none⟩) (Kd.V_mono HL170_2.out (fun k_ hk => (⟨hk, hk.2⟩ : _ ∧ k_ ≠ gb171))) (fun _ hk => hk.2) (.string ((rd_T81 l0 x11_1).f0))) (fun _ hk => hk.2) (.string ((rd_T81 l0 x11_1).f1))) (fun _ hk => hk.2) (.slice A170_2 ((rd_T81 l0 x11_1).f2).length c170_2)) (fun _ hk => hk.1.1), bl1 GE171⟩
           · rw [if_neg c8] at H
             have c8b0 : (((rd_T81 l0 x11_1).f1).toList == a2.toList) = false := beq_eq_false_iff_ne.mpr c8
             have c8b1 : (((rd_T81 l0 x11_1).f1).toList != a2.toList) = true := bne_iff_ne.mpr c8
             have H' := Aside0.mk H
             clear H
             have p170 : 0 ≤ (x11_1 : Int) := of_decide_eq_true am
             have q170 : x11_1 < (l0.length : Int) := of_decide_eq_true am
             obtain ⟨ad170, A170_2, c170_2, e170, hx170_0, hx170_1, hx170_2, hl170_2, hi170_2⟩ := at_T81 (Kd.V_reads' HO_9.out).2.2 x11_1 p170 q170
             cases e170
             obtain ⟨ce170, hce170, hMe170, hcc170⟩ := Kd.V_get HO_9.out z81 x11_1 p170 (by first | exact q170 | exact of_decide_eq_true am | (have e_ := (Kd.V_reads' HO_9.out).1; omega))
             obtain ⟨ua170_2, uc170_2, rfl, ul170_2, ge170_2⟩ := k81_openF hMe170
             have hv170_2 := hcc170 2 _ rfl
             rw [add_field _ _ 2 (by omega)] at hv170_2
             replace hv170_2 := Option.some.inj (hv170_2.symm.trans hx170_2)
             injection hv170_2 with hva_ hvn_ hvc_
             rw [hva_] at ge170_2
             rw [hvc_] at ul170_2
             have HL170_2 := Aside0.mk (show Kd.V k37 37 _ w.heap.size _ _ ((rd_T81 l0 x11_1).f2) from Kd.V_mk ul170_2 ge170_2)
             clear hva_ hvn_ hvc_ ge170_2 ul170_2
             clear hcc170 hce170
             have HR170_2 := Aside0.mk hi170_2
             have HC170_2 := Aside0.mk hl170_2
             clear hi170_2 hl170_2
             replace p170 := eq_true p170
             replace q170 := eq_true q170
             go_wp2_with (first | ((with_reducible refine gate_dst (N := 8) rfl ?_); refine bx 8 #[.string (⟨#[]⟩ : ByteArray), .string (⟨#[]⟩ : ByteArray), .slice none 0 0] 81 ?_; intro gb171 hg w11 hbox hb; replace HO_9 := ak (Kd.V_below (Kd.V_elderB (by (with_reducible repeat (first | apply Kd.V_alloc | apply Kd.V_drewN | apply Kd.V_drew)); exact HO_9.out) gb171 (Nat.le_of_eq hg.symm)) hb); replace HL170_2 := ak (Kd.V_below (Kd.V_elderB (by (with_reducible repeat (first | apply Kd.V_alloc | apply Kd.V_drewN | apply Kd.V_drew)); exact HL170_2.out) gb171 (Nat.le_of_eq hg.symm)) hb); replace HR170_2 := ak (Kd.C_below (by repeat (first | (with_reducible exact HR170_2.out) | (with_reducible refine Kd.C_alloc ?_ _) | (with_reducible refine Kd.C_drewN ?_ _) | (with_reducible refine Kd.C_drew ?_) | exact HR170_2.out)) hb); have BK171 := ak hbox; have GW171 := gs hg bl; have GE171 := gs hg bl; replace HB := ak (below_step bl hb); clear hb hbox hg; obtain ⟨hcz12_0, hcz12_1, hcz12_2, hfz12_0, hfz12_1, hfz12_2⟩ := cz3 BK171))
             go_roundg k1
             case measure => have := HK1.out; omega
             case rel => exact ⟨(wrap64 (x11_1 + 1)), es, H', ⟨kp⟩, ⟨by (with_reducible repeat (first | apply Kd.V_alloc | apply Kd.V_drewN | apply Kd.V_drew)); exact Kd.V_mono (Kd.V_far (p := ⟨gb171, 2, none⟩) (Kd.V_far (p := ⟨gb171, 1, none⟩) (Kd.V_far (p := ⟨gb171, 0, none⟩) (Kd.V_mono HO_9.out (fun k_ hk => (⟨hk, hk.2⟩ : _ ∧ k_ ≠ gb171))) (fun _ hk => hk.2) (.string ((rd_T81 l0 x11_1).f0))) (fun _ hk => hk.2) (.string ((rd_T81 l0 x11_1).f1))) (fun _ hk => hk.2) (.slice A170_2 ((rd_T81 l0 x11_1).f2).length c170_2)) (fun _ hk => hk.1.1)⟩, ⟨bl1 GE171⟩⟩
         · rw [if_neg c7] at H
           have c7b0 : (((rd_T81 l0 x11_1).f0).toList == a1.toList) = false := beq_eq_false_iff_ne.mpr c7
           have c7b1 : (((rd_T81 l0 x11_1).f0).toList != a1.toList) = true := bne_iff_ne.mpr c7
           have H' := Aside0.mk H
           clear H
           have p170 : 0 ≤ (x11_1 : Int) := of_decide_eq_true am
           have q170 : x11_1 < (l0.length : Int) := of_decide_eq_true am
           obtain ⟨ad170, A170_2, c170_2, e170, hx170_0, hx170_1, hx170_2, hl170_2, hi170_2⟩ := at_T81 (Kd.V_reads' HO_9.out).2.2 x11_1 p170 q170
           cases e170
           obtain ⟨ce170, hce170, hMe170, hcc170⟩ := Kd.V_get HO_9.out z81 x11_1 p170 (by first | exact q170 | exact of_decide_eq_true am | (have e_ := (Kd.V_reads' HO_9.out).1; omega))
           obtain ⟨ua170_2, uc170_2, rfl, ul170_2, ge170_2⟩ := k81_openF hMe170
           have hv170_2 := hcc170 2 _ rfl
           rw [add_field _ _ 2 (by omega)] at hv170_2
           replace hv170_2 := Option.some.inj (hv170_2.symm.trans hx170_2)
           injection hv170_2 with hva_ hvn_ hvc_
           rw [hva_] at ge170_2
           rw [hvc_] at ul170_2
           have HL170_2 := Aside0.mk (show Kd.V k37 37 _ w.heap.size _ _ ((rd_T81 l0 x11_1).f2) from Kd.V_mk ul170_2 ge170_2)
           clear hva_ hvn_ hvc_ ge170_2 ul170_2
           clear hcc170 hce170
           have HR170_2 := Aside0.mk hi170_2
           have HC170_2 := Aside0.mk hl170_2
           clear hi170_2 hl170_2
           replace p170 := eq_true p170
           replace q170 := eq_true q170
           go_wp2_with (first | ((with_reducible refine gate_dst (N := 8) rfl ?_); refine bx 8 #[.string (⟨#[]⟩ : ByteArray), .string (⟨#[]⟩ : ByteArray), .slice none 0 0] 81 ?_; intro gb171 hg w13 hbox hb; replace HO_9 := ak (Kd.V_below (Kd.V_elderB (by (with_reducible repeat (first | apply Kd.V_alloc | apply Kd.V_drewN | apply Kd.V_drew)); exact HO_9.out) gb171 (Nat.le_of_eq hg.symm)) hb); replace HL170_2 := ak (Kd.V_below (Kd.V_elderB (by (with_reducible repeat (first | apply Kd.V_alloc | apply Kd.V_drewN | apply Kd.V_drew)); exact HL170_2.out) gb171 (Nat.le_of_eq hg.symm)) hb); replace HR170_2 := ak (Kd.C_below (by repeat (first | (with_reducible exact HR170_2.out) | (with_reducible refine Kd.C_alloc ?_ _) | (with_reducible refine Kd.C_drewN ?_ _) | (with_reducible refine Kd.C_drew ?_) | exact HR170_2.out)) hb); have BK171 := ak hbox; have GW171 := gs hg bl; have GE171 := gs hg bl; replace HB := ak (below_step bl hb); clear hb hbox hg; obtain ⟨hcz14_0, hcz14_1, hcz14_2, hfz14_0, hfz14_1, hfz14_2⟩ := cz3 BK171))
           go_roundg k1
           case measure => have := HK1.out; omega
           case rel => exact ⟨(wrap64 (x11_1 + 1)), es, H', ⟨kp⟩, ⟨by (with_reducible repeat (first | apply Kd.V_alloc | apply Kd.V_drewN | apply Kd.V_drew)); exact Kd.V_mono (Kd.V_far (p := ⟨gb171, 2, none⟩) (Kd.V_far (p := ⟨gb171, 1, none⟩) (Kd.V_far (p := ⟨gb171, 0, none⟩) (Kd.V_mono HO_9.out (fun k_ hk => (⟨hk, hk.2⟩ : _ ∧ k_ ≠ gb171))) (fun _ hk => hk.2) (.string ((rd_T81 l0 x11_1).f0))) (fun _ hk => hk.2) (.string ((rd_T81 l0 x11_1).f1))) (fun _ hk => hk.2) (.slice A170_2 ((rd_T81 l0 x11_1).f2).length c170_2)) (fun _ hk => hk.1.1)⟩, ⟨bl1 GE171⟩⟩
       · rw [if_neg c6] at H
         exact absurd H (by simp)
     · rw [if_neg c5] at H
       exact absurd H (by simp)
   · rw [if_neg c4] at H
     have c4b0 : decide (x11_1 < (l0.length : Int)) = false := decide_eq_false c4
     clear c4
     obtain rfl := Option.some.inj H
     go_wp2
     go_ret
     exact ⟨.slice none 0 0, ew, Kd.V_nil _ _ _ _ _, bl⟩

end Go.Proofs.Ytplekidnlofioaa.Q
namespace Go.Proofs.Ytplekidnlofioaa.Q
open Go.RowKit Go.Proofs.YtplekidnlofioaaW.PrintWords Go.Proofs.YtplekidnlofioaaW.PrintLast Go.Proofs.YtplekidnlofioaaW.PrintMore
attribute [local go_sem] max2_int min2_int max_two min_two max_three min_three max_four min_four   -- for this text's walks alone
set_option linter.unusedVariables false
set_option linter.unusedSimpArgs false

/-! ### impl_SeriesOf: function 15 -/
def impl_SeriesOf.f (k : Nat) (l0 : List (S81)) (a1 : ByteArray) (a2 : ByteArray) : Option ((List (S37)) × Bool) := (impl_StoreOk.f k l0).bind fun t172 => (if t172 = true then ((impl_pointsOf.f k l0 a1 a2).bind fun t173 => ((slices_Clone_impl_Point_impl_Point.f t173).bind fun t176 => (some (t176, decide ((t176.length : Int) > 0))))) else (some (([] : List (S37)), false)))
theorem impl_SeriesOf.mono : ∀ a0 a1 a2 k, LeO (impl_SeriesOf.f k a0 a1 a2) (impl_SeriesOf.f (k + 1) a0 a1 a2) := by
 intro a0 a1 a2 k
 unfold impl_SeriesOf.f
 repeat' first
  | (with_reducible exact impl_StoreOk.mono _ _)
  | (with_reducible exact impl_pointsOf.mono _ _ _ _)
  | (with_reducible exact LeO.refl _)
  | (with_reducible exact LeO.none _)
  | (with_reducible refine LeO.ite ?_ ?_)
  | (with_reducible refine LeO.bind ?_ (fun _ => ?_))
  | exact impl_StoreOk.mono _ _
  | exact impl_pointsOf.mono _ _ _ _
  | exact LeO.none _
  | refine LeO.ite ?_ ?_
  | refine LeO.bind ?_ (fun _ => ?_)
set_option maxHeartbeats 8000000 in
set_option maxRecDepth 100000 in
theorem impl_SeriesOf.calls (k : Nat) (A0 : Option Addr) (c0 : Nat) (l0 : List (S81)) (a1 : ByteArray) (a2 : ByteArray) (r1 : List (S37)) (r2 : Bool) (w : World) (hr0 : Kd.C k81 w A0 l0.length l0) (hc0 : l0.length ≤ c0) (h : impl_SeriesOf.f k l0 a1 a2 = some (r1, r2)) :
 Calls Try.prog 15 #[.slice A0 l0.length c0, .string a1, .string a2] w fun e w' => ∃ v0_ : Value, e = .returned (.tuple #[v0_, .bool r2]) ∧ Kd.R k37 37 w' w.heap.size (fun _ => True) v0_ r1 ∧ Below w.heap.size w w' := by
 have HR0 := Aside0.mk hr0
 have HC0 := Aside0.mk hc0
 clear hr0 hc0
 have HB := Aside0.mk (Below.refl w.heap.size w)
 have H : ((impl_StoreOk.f k l0).bind fun t172 => (if t172 = true then ((impl_pointsOf.f k l0 a1 a2).bind fun t173 => ((slices_Clone_impl_Point_impl_Point.f t173).bind fun t176 => (some (t176, decide ((t176.length : Int) > 0))))) else (some (([] : List (S37)), false)))) = some (r1, r2) := h
 clear h
 obtain ⟨t172, A40, H⟩ := bo H
 have A4 := Aside0.mk A40
 clear A40
 by_cases c5 : t172 = true
 · subst c5
   replace H := iT H
   obtain ⟨t173, A60, H⟩ := bo H
   have A6 := Aside0.mk A60
   clear A60
   obtain ⟨t176, A70, H⟩ := bo H
   have A7 := Aside0.mk A70
   clear A70
   simp only [Option.some.injEq, Prod.mk.injEq] at H
   obtain ⟨rfl, rfl⟩ := H
   go_enter Try.func15, Try.ntmps15
   go_wp2_with (first | ((with_reducible refine gate_callee (f := 49) rfl ?_); refine gl (some 10) Try.func49 #[.slice A0 l0.length c0] ?_; (with_reducible refine (impl_StoreOk.calls k _ _ l0 true _ ?side1 ?side2 A4.out).mono ?_); (case side1 => repeat (first | exact HR0.out | (with_reducible refine Kd.C_alloc ?_ _) | (with_reducible refine Kd.C_drewN ?_ _) | (with_reducible refine Kd.C_drew ?_))); (case side2 => exact HC0.out); rintro e w8 ⟨rfl, hb⟩; refine ⟨_, rfl, ?_⟩; replace HB := ak (below_step bl hb); (try clear hb); (try clear hb2); (try clear hk); (try clear hi)) | ((with_reducible refine gate_callee (f := 67) rfl ?_); refine gl (some 15) Try.func67 #[.slice A0 l0.length c0, .string a1, .string a2] ?_; (with_reducible refine (impl_pointsOf.calls k (fun k_ => k_ < w.heap.size) _ _ l0 a1 a2 t173 _ ?side1 A6.out).mono ?_); (case side1 => exact Kd.V_mk HC0.out (Kd.F_below (Kd.C_F k81_heap HR0.out) bl)); rintro e w9 ⟨v174, rfl, ho0, hb⟩; refine ⟨_, rfl, ?_⟩; have HO175 := ak (Kd.V_lower (Kd.V_mono (ok' := fun k_ => True) ho0 (fun k_ hk_ => trivial)) (below_size bl)); replace HB := ak (below_step bl hb); (try clear hb); (try clear hb2); (try clear hk); (try clear hi); (try clear ho0); obtain ⟨Ao10, co10, eo10⟩ := Kd.V_slice HO175.out; subst eo10) | ((with_reducible refine gate_callee (f := 66) rfl ?_); refine gl (some 16) Try.func66 #[.slice Ao10 t173.length co10] ?_; (with_reducible refine (slices_Clone_impl_Point_impl_Point.calls _ _ t173 t176 _ ?side1 ?side2 A7.out).mono ?_); (case side1 => repeat (first | exact (Kd.V_reads' HO175.out).2.2 | (with_reducible refine Kd.C_alloc ?_ _) | (with_reducible refine Kd.C_drewN ?_ _) | (with_reducible refine Kd.C_drew ?_))); (case side2 => exact (Kd.V_reads' HO175.out).2.1); rintro e w11 ⟨v177, rfl, ho0, hb⟩; refine ⟨_, rfl, ?_⟩; replace HO175 := ak (Kd.V_elder' (by (with_reducible repeat (first | apply Kd.V_alloc | apply Kd.V_drewN | apply Kd.V_drew)); exact HO175.out) (Kd.R_base ho0) hb); have HO178 := ak (Kd.R_lower ho0 (below_size bl)); replace HB := ak (below_step bl hb); (try clear hb); (try clear hb2); (try clear hk); (try clear hi); (try clear ho0); obtain ⟨Ao12, co12, eo12⟩ := Kd.R_slice HO178.out; subst eo12))
   go_ret2
   exact ⟨_, ew, kr HO178, bl⟩
 · replace c5 := Bool.eq_false_iff.mpr c5
   subst c5
   replace H := iF H
   simp only [Option.some.injEq, Prod.mk.injEq] at H
   obtain ⟨rfl, rfl⟩ := H
   go_enter Try.func15, Try.ntmps15
   go_wp2_with (first | ((with_reducible refine gate_callee (f := 49) rfl ?_); refine gl (some 10) Try.func49 #[.slice A0 l0.length c0] ?_; (with_reducible refine (impl_StoreOk.calls k _ _ l0 false _ ?side1 ?side2 A4.out).mono ?_); (case side1 => repeat (first | exact HR0.out | (with_reducible refine Kd.C_alloc ?_ _) | (with_reducible refine Kd.C_drewN ?_ _) | (with_reducible refine Kd.C_drew ?_))); (case side2 => exact HC0.out); rintro e w13 ⟨rfl, hb⟩; refine ⟨_, rfl, ?_⟩; replace HB := ak (below_step bl hb); (try clear hb); (try clear hb2); (try clear hk); (try clear hi)))
   go_ret2
   exact ⟨_, ew, by first | exact Kd.R_nil _ _ _ _ _ | exact Kd.N_nil _ _ _ _ _ | exact Kd.V_nil _ _ _ _ _ | exact Kd.Q_nil _ _ _ _ _ | exact Kd.S_nil _ _ _ _ _, bl⟩

end Go.Proofs.Ytplekidnlofioaa.Q
namespace Go.Proofs.Ytplekidnlofioaa.Q
open Go.RowKit Go.Proofs.YtplekidnlofioaaW.PrintWords Go.Proofs.YtplekidnlofioaaW.PrintLast Go.Proofs.YtplekidnlofioaaW.PrintMore
attribute [local go_sem] max2_int min2_int max_two min_two max_three min_three max_four min_four   -- for this text's walks alone
set_option linter.unusedVariables false
set_option linter.unusedSimpArgs false

/-! ### impl_isValue: function 159 -/
def impl_isValue.f (a0 : Int) : Option (Bool) := (impl_in.f a0 (-1000000000) 1000000000).bind fun t901 => (some t901)
set_option maxHeartbeats 8000000 in
set_option maxRecDepth 100000 in
theorem impl_isValue.calls (a0 : Int) (r : Bool) (w : World) (h : impl_isValue.f a0 = some r) :
 Calls Try.prog 159 #[.int .i64 a0] w fun e w' => e = .returned (.bool r) ∧ Drawn0 w w' := by
 have H : ((impl_in.f a0 (-1000000000) 1000000000).bind fun t901 => (some t901)) = some r := h
 clear h
 obtain ⟨t901, A20, H⟩ := bo H
 have A2 := Aside0.mk A20
 clear A20
 obtain rfl := Option.some.inj H
 go_enter Try.func159, Try.ntmps159
 go_wp2_with (first | ((with_reducible refine gate_callee (f := 124) rfl ?_); refine gl (some 4) Try.func124 #[.int .i64 a0, .int .i64 (-1000000000), .int .i64 1000000000] ?_; (with_reducible refine (impl_in.calls a0 (-1000000000) 1000000000 t901 _ A2.out).mono ?_); rintro e w' ⟨rfl, ⟨nd, rfl⟩⟩; refine ⟨_, rfl, ?_⟩))
 go_ret
 exact ⟨es, dr0⟩

end Go.Proofs.Ytplekidnlofioaa.Q
namespace Go.Proofs.Ytplekidnlofioaa.Q
open Go.RowKit Go.Proofs.YtplekidnlofioaaW.PrintWords Go.Proofs.YtplekidnlofioaaW.PrintLast Go.Proofs.YtplekidnlofioaaW.PrintMore
attribute [local go_sem] max2_int min2_int max_two min_two max_three min_three max_four min_four   -- for this text's walks alone
set_option linter.unusedVariables false
set_option linter.unusedSimpArgs false

/-! ### impl_CutValue: function 160 -/
def impl_CutValue.f (a0 : Int) : Option (Int × Bool) := some (mn (mx a0 (-1000000000)) 1000000000, ((mn (mx a0 (-1000000000)) 1000000000) != a0))
set_option maxHeartbeats 8000000 in
set_option maxRecDepth 100000 in
theorem impl_CutValue.calls (a0 : Int) (r1 : Int) (r2 : Bool) (w : World) (h : impl_CutValue.f a0 = some (r1, r2)) :
 Calls Try.prog 160 #[.int .i64 a0] w fun e w' => e = .returned (.tuple #[.int .i64 r1, .bool r2]) ∧ Below w.heap.size w w' := by
 have HB := Aside0.mk (Below.refl w.heap.size w)
 have H : (some (mn (mx a0 (-1000000000)) 1000000000, ((mn (mx a0 (-1000000000)) 1000000000) != a0))) = some (r1, r2) := h
 clear h
 obtain ⟨ji2, hji2⟩ : ∃ j_ : Int, (mx a0 (-1000000000)) = j_ := ⟨_, rfl⟩
 replace H : (some (mn (ji2) 1000000000, ((mn (ji2) 1000000000) != a0))) = some (r1, r2) := by first | (rw [hji2] at H; exact H) | (simp only [hji2] at H ⊢; exact H)
 have hji2_ : (if a0 < (-1000000000) then (-1000000000) else a0) = ji2 := hji2
 obtain ⟨ji3, hji3⟩ : ∃ j_ : Int, (mn (ji2) 1000000000) = j_ := ⟨_, rfl⟩
 replace H : (some (ji3, ((ji3) != a0))) = some (r1, r2) := by first | (rw [hji3] at H; exact H) | (simp only [hji3] at H ⊢; exact H)
 have hji3_ : (if 1000000000 < (ji2) then 1000000000 else (ji2)) = ji3 := hji3
 simp only [Option.some.injEq, Prod.mk.injEq] at H
 obtain ⟨rfl, rfl⟩ := H
 go_enter Try.func160, Try.ntmps160
 go_wp2
 go_ret2
 exact ⟨by first | rfl | (simp [errW_none, errW_some] <;> rfl) | (simp only [← hji2, ← hji3]; first | rfl | (simp [errW_none, errW_some] <;> rfl)) | (simp [*, errW_none, errW_some] <;> rfl), bl⟩

end Go.Proofs.Ytplekidnlofioaa.Q
namespace Go.Proofs.Ytplekidnlofioaa.Q
open Go.RowKit Go.Proofs.YtplekidnlofioaaW.PrintWords Go.Proofs.YtplekidnlofioaaW.PrintLast Go.Proofs.YtplekidnlofioaaW.PrintMore
attribute [local go_sem] max2_int min2_int max_two min_two max_three min_three max_four min_four   -- for this text's walks alone
set_option linter.unusedVariables false
set_option linter.unusedSimpArgs false

/-! ### impl_AddValues: function 106 -/
def impl_AddValues.l0 : Nat → Int → Bool → List Int → Int → Int → Option (Int × Bool)
 | 0, _, _, _, _, _ => none
 | k + 1, x4, x5, x13, x14, x15 => if x15 < x14 then (if 0 ≤ x15 then (if x15 < (x13.length : Int) then ((impl_isValue.f (rd x13 x15)).bind fun t903 => (if t903 = true then ((impl_CutValue.f (wrap64 (x4 + (rd x13 x15)))).bind fun bt904 => (if x5 = true then (impl_AddValues.l0 k bt904.1 true x13 x14 (wrap64 (x15 + 1))) else (impl_AddValues.l0 k bt904.1 bt904.2 x13 x14 (wrap64 (x15 + 1))))) else (some (0, true)))) else (none)) else (none)) else (some (x4, x5))
def impl_AddValues.f (k : Nat) (l0 : List Int) : Option (Int × Bool) := if (l0.length : Int) > 300 then (some (0, true)) else (impl_AddValues.l0 k 0 false l0 (l0.length : Int) 0)
theorem impl_AddValues.mono_l : ∀ k, (∀ y0 y1 y2 y3 y4, LeO (impl_AddValues.l0 k y0 y1 y2 y3 y4) (impl_AddValues.l0 (k + 1) y0 y1 y2 y3 y4))
 | 0 => fun _ _ _ _ _ r h => by simp [impl_AddValues.l0] at h
 | k + 1 => by
  have ih0 := impl_AddValues.mono_l k
  · intro y0 y1 y2 y3 y4
    unfold impl_AddValues.l0
    repeat' first
    | (with_reducible exact ih0 _ _ _ _ _)
    | (with_reducible exact LeO.refl _)
    | (with_reducible exact LeO.none _)
    | (with_reducible refine LeO.ite ?_ ?_)
    | (with_reducible refine LeO.bind ?_ (fun _ => ?_))
    | exact ih0 _ _ _ _ _
    | exact LeO.none _
    | refine LeO.ite ?_ ?_
    | refine LeO.bind ?_ (fun _ => ?_)
theorem impl_AddValues.mono : ∀ a0 k, LeO (impl_AddValues.f k a0) (impl_AddValues.f (k + 1) a0) := by
 intro a0 k
 have ih0 := impl_AddValues.mono_l k
 unfold impl_AddValues.f
 repeat' first
  | (with_reducible exact ih0 _ _ _ _ _)
  | (with_reducible exact LeO.refl _)
  | (with_reducible exact LeO.none _)
  | (with_reducible refine LeO.ite ?_ ?_)
  | (with_reducible refine LeO.bind ?_ (fun _ => ?_))
  | exact ih0 _ _ _ _ _
  | exact LeO.none _
  | refine LeO.ite ?_ ?_
  | refine LeO.bind ?_ (fun _ => ?_)
set_option maxHeartbeats 8000000 in
set_option maxRecDepth 100000 in
theorem impl_AddValues.calls (k : Nat) (A0 : Option Addr) (c0 : Nat) (l0 : List Int) (r1 : Int) (r2 : Bool) (w : World) (hr0 : Kd.C (Kd.int .i64) w A0 l0.length l0) (hc0 : l0.length ≤ c0) (h : impl_AddValues.f k l0 = some (r1, r2)) :
 Calls Try.prog 106 #[.slice A0 l0.length c0] w fun e w' => e = .returned (.tuple #[.int .i64 r1, .bool r2]) ∧ Below w.heap.size w w' := by
 have HR0 := Aside0.mk hr0
 have HC0 := Aside0.mk hc0
 clear hr0 hc0
 have HB := Aside0.mk (Below.refl w.heap.size w)
 have H : (if (l0.length : Int) > 300 then (some (0, true)) else (impl_AddValues.l0 k 0 false l0 (l0.length : Int) 0)) = some (r1, r2) := h
 clear h
 by_cases c2 : (l0.length : Int) > 300
 · rw [if_pos c2] at H
   have c2b0 : decide (300 < (l0.length : Int)) = true := decide_eq_true c2
   have c2b1 : decide (300 < l0.length) = true := decide_eq_true (by omega)
   clear c2
   simp only [Option.some.injEq, Prod.mk.injEq] at H
   obtain ⟨rfl, rfl⟩ := H
   go_enter Try.func106, Try.ntmps106
   go_wp2
   go_ret2
   exact ⟨ew, bl⟩
 · rw [if_neg c2] at H
   have c2b0 : decide (300 < (l0.length : Int)) = false := decide_eq_false c2
   have c2b1 : decide (300 < l0.length) = false := decide_eq_false (by omega)
   clear c2
   have H' := Aside0.mk H
   clear H
   go_enter Try.func106, Try.ntmps106
   go_wp2
   go_loopg [4, 5, 15] k (fun kq v4 v5 v15 w' => ∃ (x4_1 : Int) (x5_1 : Bool) (x15_1 : Int), v4 = .int .i64 x4_1 ∧ v5 = .bool x5_1 ∧ v15 = .int .i64 x15_1 ∧ Aside0 (impl_AddValues.l0 kq x4_1 x5_1 l0 (l0.length : Int) x15_1 = some (r1, r2)) ∧ Aside0 (kq ≤ k) ∧ Aside0 (Below w.heap.size w w'))
   case atStart => exact ⟨(0), (false), (0), es, es, es, H', ⟨Nat.le_refl _⟩, ⟨bl⟩⟩
   case round =>
    clear H'
    try clear c1
    try clear c2
    try clear c2b0
    try clear c2b1
    try clear p2
    obtain ⟨x4_1, x5_1, x15_1, rfl, rfl, rfl, HA, HK1, HB⟩ := hrel
    cases gk with
    | zero => exact absurd HA.out (by simp [impl_AddValues.l0])
    | succ k1 =>
     have H := HA.out
     clear HA
     simp only [impl_AddValues.l0] at H
     by_cases c3 : x15_1 < (l0.length : Int)
     · rw [if_pos c3] at H
       have c3b0 : decide (x15_1 < (l0.length : Int)) = true := decide_eq_true c3
       clear c3
       by_cases c4 : 0 ≤ x15_1
       · rw [if_pos c4] at H
         have c4b0 : decide (0 ≤ x15_1) = true := decide_eq_true c4
         clear c4
         by_cases c5 : x15_1 < (l0.length : Int)
         · rw [if_pos c5] at H
           have c5b0 : decide (x15_1 < (l0.length : Int)) = true := decide_eq_true c5
           clear c5
           obtain ⟨t903, A60, H⟩ := bo H
           have A6 := Aside0.mk A60
           clear A60
           by_cases c7 : t903 = true
           · subst c7
             replace H := iT H
             replace H := Option.bind_eq_some_iff.mp H
             obtain ⟨⟨t904, t905⟩, A80, H⟩ := H
             replace H : (if x5_1 = true then (impl_AddValues.l0 k1 t904 true l0 (l0.length : Int) (wrap64 (x15_1 + 1))) else (impl_AddValues.l0 k1 t904 t905 l0 (l0.length : Int) (wrap64 (x15_1 + 1)))) = some (r1, r2) := H
             have A8 := Aside0.mk A80
             clear A80
             by_cases c9 : x5_1 = true
             · subst c9
               replace H := iT H
               have H' := Aside0.mk H
               clear H
               have p902 : 0 ≤ (x15_1 : Int) := of_decide_eq_true am
               have q902 : x15_1 < (l0.length : Int) := of_decide_eq_true am
               obtain ⟨ad902, e902, hx902_0⟩ := Kd.at_int HR0.out x15_1 p902 q902
               cases e902
               replace hx902_0 := cw hx902_0
               replace p902 := eq_true p902
               replace q902 := eq_true q902
               go_wp2_with (first | ((with_reducible refine gate_callee (f := 159) rfl ?_); refine gl (some 20) Try.func159 #[.int .i64 (rd l0 x15_1)] ?_; (with_reducible refine (impl_isValue.calls (rd l0 x15_1) true _ A6.out).mono ?_); rintro e w' ⟨rfl, ⟨nd, rfl⟩⟩; refine ⟨_, rfl, ?_⟩) | ((with_reducible refine gate_callee (f := 160) rfl ?_); refine gl (some 26) Try.func160 #[.int .i64 (wrap64 (x4_1 + (rd l0 x15_1)))] ?_; (with_reducible refine (impl_CutValue.calls (wrap64 (x4_1 + (rd l0 x15_1))) t904 t905 _ A8.out).mono ?_); rintro e w10 ⟨rfl, hb⟩; refine ⟨_, rfl, ?_⟩; replace HB := ak (below_step bl hb); (try clear hb); (try clear hb2); (try clear hk); (try clear hi)))
               go_roundg k1
               case measure => have := HK1.out; omega
               case rel => exact ⟨(t904), (true), (wrap64 (x15_1 + 1)), es, es, es, H', ⟨kp⟩, ⟨bl⟩⟩
             · replace c9 := Bool.eq_false_iff.mpr c9
               subst c9
               replace H := iF H
               have H' := Aside0.mk H
               clear H
               have p902 : 0 ≤ (x15_1 : Int) := of_decide_eq_true am
               have q902 : x15_1 < (l0.length : Int) := of_decide_eq_true am
               obtain ⟨ad902, e902, hx902_0⟩ := Kd.at_int HR0.out x15_1 p902 q902
               cases e902
               replace hx902_0 := cw hx902_0
               replace p902 := eq_true p902
               replace q902 := eq_true q902
               go_wp2_with (first | ((with_reducible refine gate_callee (f := 159) rfl ?_); refine gl (some 20) Try.func159 #[.int .i64 (rd l0 x15_1)] ?_; (with_reducible refine (impl_isValue.calls (rd l0 x15_1) true _ A6.out).mono ?_); rintro e w' ⟨rfl, ⟨nd, rfl⟩⟩; refine ⟨_, rfl, ?_⟩) | ((with_reducible refine gate_callee (f := 160) rfl ?_); refine gl (some 26) Try.func160 #[.int .i64 (wrap64 (x4_1 + (rd l0 x15_1)))] ?_; (with_reducible refine (impl_CutValue.calls (wrap64 (x4_1 + (rd l0 x15_1))) t904 t905 _ A8.out).mono ?_); rintro e w11 ⟨rfl, hb⟩; refine ⟨_, rfl, ?_⟩; replace HB := ak (below_step bl hb); (try clear hb); (try clear hb2); (try clear hk); (try clear hi)))
               go_roundg k1
               case measure => have := HK1.out; omega
               case rel => exact ⟨(t904), (t905), (wrap64 (x15_1 + 1)), es, es, es, H', ⟨kp⟩, ⟨bl⟩⟩
           · replace c7 := Bool.eq_false_iff.mpr c7
             subst c7
             replace H := iF H
             simp only [Option.some.injEq, Prod.mk.injEq] at H
             obtain ⟨rfl, rfl⟩ := H
             have p902 : 0 ≤ (x15_1 : Int) := of_decide_eq_true am
             have q902 : x15_1 < (l0.length : Int) := of_decide_eq_true am
             obtain ⟨ad902, e902, hx902_0⟩ := Kd.at_int HR0.out x15_1 p902 q902
             cases e902
             replace hx902_0 := cw hx902_0
             replace p902 := eq_true p902
             replace q902 := eq_true q902
             go_wp2_with (first | ((with_reducible refine gate_callee (f := 159) rfl ?_); refine gl (some 20) Try.func159 #[.int .i64 (rd l0 x15_1)] ?_; (with_reducible refine (impl_isValue.calls (rd l0 x15_1) false _ A6.out).mono ?_); rintro e w' ⟨rfl, ⟨nd, rfl⟩⟩; refine ⟨_, rfl, ?_⟩))
             go_ret2
             exact ⟨ew, bl⟩
         · rw [if_neg c5] at H
           exact absurd H (by simp)
       · rw [if_neg c4] at H
         exact absurd H (by simp)
     · rw [if_neg c3] at H
       have c3b0 : decide (x15_1 < (l0.length : Int)) = false := decide_eq_false c3
       clear c3
       simp only [Option.some.injEq, Prod.mk.injEq] at H
       obtain ⟨rfl, rfl⟩ := H
       go_wp2
       go_ret2
       exact ⟨ew, bl⟩

end Go.Proofs.Ytplekidnlofioaa.Q
namespace Go.Proofs.Ytplekidnlofioaa.Q
open Go.RowKit Go.Proofs.YtplekidnlofioaaW.PrintWords Go.Proofs.YtplekidnlofioaaW.PrintLast Go.Proofs.YtplekidnlofioaaW.PrintMore
attribute [local go_sem] max2_int min2_int max_two min_two max_three min_three max_four min_four   -- for this text's walks alone
set_option linter.unusedVariables false
set_option linter.unusedSimpArgs false

/-! ### impl_FloorDiv: function 185 -/
def impl_FloorDiv.f (a0 : Int) (a1 : Int) : Option (Int) := if a1 < 1 then (some 0) else (if a1 = 0 then (none) else (if (Int.tmod a0 a1) < 0 then (some (wrap64 ((wrap64 (Int.tdiv a0 a1)) - 1))) else (some (wrap64 (Int.tdiv a0 a1)))))
set_option maxHeartbeats 8000000 in
set_option maxRecDepth 100000 in
theorem impl_FloorDiv.calls (a0 : Int) (a1 : Int) (r : Int) (w : World) (h : impl_FloorDiv.f a0 a1 = some r) :
 Calls Try.prog 185 #[.int .i64 a0, .int .i64 a1] w fun e w' => e = .returned (.int .i64 r) ∧ Drawn0 w w' := by
 have H : (if a1 < 1 then (some 0) else (if a1 = 0 then (none) else (if (Int.tmod a0 a1) < 0 then (some (wrap64 ((wrap64 (Int.tdiv a0 a1)) - 1))) else (some (wrap64 (Int.tdiv a0 a1)))))) = some r := h
 clear h
 by_cases c3 : a1 < 1
 · rw [if_pos c3] at H
   have c3b0 : decide (a1 < 1) = true := decide_eq_true c3
   clear c3
   obtain rfl := Option.some.inj H
   go_enter Try.func185, Try.ntmps185
   go_wp2
   go_ret
   exact ⟨es, dr0⟩
 · rw [if_neg c3] at H
   have c3b0 : decide (a1 < 1) = false := decide_eq_false c3
   clear c3
   by_cases c4 : a1 = 0
   · rw [if_pos c4] at H
     exact absurd H (by simp)
   · rw [if_neg c4] at H
     have c4b0 : (a1 == 0) = false := beq_eq_false_iff_ne.mpr c4
     have c4b1 : (a1 != 0) = true := bne_iff_ne.mpr c4
     by_cases c5 : (Int.tmod a0 a1) < 0
     · rw [if_pos c5] at H
       have c5b0 : decide ((Int.tmod a0 a1) < 0) = true := decide_eq_true c5
       clear c5
       obtain rfl := Option.some.inj H
       go_enter Try.func185, Try.ntmps185
       go_wp2
       go_ret
       exact ⟨es, dr0⟩
     · rw [if_neg c5] at H
       have c5b0 : decide ((Int.tmod a0 a1) < 0) = false := decide_eq_false c5
       clear c5
       obtain rfl := Option.some.inj H
       go_enter Try.func185, Try.ntmps185
       go_wp2
       go_ret
       exact ⟨es, dr0⟩

end Go.Proofs.Ytplekidnlofioaa.Q
namespace Go.Proofs.Ytplekidnlofioaa.Q
open Go.RowKit Go.Proofs.YtplekidnlofioaaW.PrintWords Go.Proofs.YtplekidnlofioaaW.PrintLast Go.Proofs.YtplekidnlofioaaW.PrintMore
attribute [local go_sem] max2_int min2_int max_two min_two max_three min_three max_four min_four   -- for this text's walks alone
set_option linter.unusedVariables false
set_option linter.unusedSimpArgs false

/-! ### impl_MeanOf: function 158 -/
def impl_MeanOf.f (k : Nat) (l0 : List Int) : Option (Int × Bool) := (impl_AddValues.f k l0).bind fun bt906 => (if (l0.length : Int) = 0 then (some (0, false)) else (if bt906.2 = true then (some (0, false)) else ((impl_FloorDiv.f bt906.1 (l0.length : Int)).bind fun t908 => (some (t908, true)))))
theorem impl_MeanOf.mono : ∀ a0 k, LeO (impl_MeanOf.f k a0) (impl_MeanOf.f (k + 1) a0) := by
 intro a0 k
 unfold impl_MeanOf.f
 repeat' first
  | (with_reducible exact impl_AddValues.mono _ _)
  | (with_reducible exact LeO.refl _)
  | (with_reducible exact LeO.none _)
  | (with_reducible refine LeO.ite ?_ ?_)
  | (with_reducible refine LeO.bind ?_ (fun _ => ?_))
  | exact impl_AddValues.mono _ _
  | exact LeO.none _
  | refine LeO.ite ?_ ?_
  | refine LeO.bind ?_ (fun _ => ?_)
set_option maxHeartbeats 8000000 in
set_option maxRecDepth 100000 in
theorem impl_MeanOf.calls (k : Nat) (A0 : Option Addr) (c0 : Nat) (l0 : List Int) (r1 : Int) (r2 : Bool) (w : World) (hr0 : Kd.C (Kd.int .i64) w A0 l0.length l0) (hc0 : l0.length ≤ c0) (h : impl_MeanOf.f k l0 = some (r1, r2)) :
 Calls Try.prog 158 #[.slice A0 l0.length c0] w fun e w' => e = .returned (.tuple #[.int .i64 r1, .bool r2]) ∧ Below w.heap.size w w' := by
 have HR0 := Aside0.mk hr0
 have HC0 := Aside0.mk hc0
 clear hr0 hc0
 have HB := Aside0.mk (Below.refl w.heap.size w)
 have H : ((impl_AddValues.f k l0).bind fun bt906 => (if (l0.length : Int) = 0 then (some (0, false)) else (if bt906.2 = true then (some (0, false)) else ((impl_FloorDiv.f bt906.1 (l0.length : Int)).bind fun t908 => (some (t908, true)))))) = some (r1, r2) := h
 clear h
 replace H := Option.bind_eq_some_iff.mp H
 obtain ⟨⟨t906, t907⟩, A20, H⟩ := H
 replace H : (if (l0.length : Int) = 0 then (some (0, false)) else (if t907 = true then (some (0, false)) else ((impl_FloorDiv.f t906 (l0.length : Int)).bind fun t908 => (some (t908, true))))) = some (r1, r2) := H
 have A2 := Aside0.mk A20
 clear A20
 by_cases c3 : (l0.length : Int) = 0
 · rw [if_pos c3] at H
   have c3b0 : ((l0.length : Int) == 0) = true := beq_iff_eq.mpr c3
   have c3b1 : ((l0.length : Int) != 0) = false := bne_eq_false_iff_eq.mpr c3
   clear c3
   simp only [Option.some.injEq, Prod.mk.injEq] at H
   obtain ⟨rfl, rfl⟩ := H
   go_enter Try.func158, Try.ntmps158
   go_wp2_with (first | ((with_reducible refine gate_callee (f := 106) rfl ?_); refine gl (some 8) Try.func106 #[.slice A0 l0.length c0] ?_; (with_reducible refine (impl_AddValues.calls k _ _ l0 t906 t907 _ ?side1 ?side2 A2.out).mono ?_); (case side1 => repeat (first | exact HR0.out | (with_reducible refine Kd.C_alloc ?_ _) | (with_reducible refine Kd.C_drewN ?_ _) | (with_reducible refine Kd.C_drew ?_))); (case side2 => exact HC0.out); rintro e w4 ⟨rfl, hb⟩; refine ⟨_, rfl, ?_⟩; replace HB := ak (below_step bl hb); (try clear hb); (try clear hb2); (try clear hk); (try clear hi)))
   go_ret2
   exact ⟨ew, bl⟩
 · rw [if_neg c3] at H
   have c3b0 : ((l0.length : Int) == 0) = false := beq_eq_false_iff_ne.mpr c3
   have c3b1 : ((l0.length : Int) != 0) = true := bne_iff_ne.mpr c3
   have c3b2 : ¬ (l0 = []) := fun h_ => c3 (by rw [h_]; rfl)
   by_cases c5 : t907 = true
   · subst c5
     replace H := iT H
     simp only [Option.some.injEq, Prod.mk.injEq] at H
     obtain ⟨rfl, rfl⟩ := H
     go_enter Try.func158, Try.ntmps158
     go_wp2_with (first | ((with_reducible refine gate_callee (f := 106) rfl ?_); refine gl (some 8) Try.func106 #[.slice A0 l0.length c0] ?_; (with_reducible refine (impl_AddValues.calls k _ _ l0 t906 true _ ?side1 ?side2 A2.out).mono ?_); (case side1 => repeat (first | exact HR0.out | (with_reducible refine Kd.C_alloc ?_ _) | (with_reducible refine Kd.C_drewN ?_ _) | (with_reducible refine Kd.C_drew ?_))); (case side2 => exact HC0.out); rintro e w6 ⟨rfl, hb⟩; refine ⟨_, rfl, ?_⟩; replace HB := ak (below_step bl hb); (try clear hb); (try clear hb2); (try clear hk); (try clear hi)))
     go_ret2
     exact ⟨ew, bl⟩
   · replace c5 := Bool.eq_false_iff.mpr c5
     subst c5
     replace H := iF H
     obtain ⟨t908, A70, H⟩ := bo H
     have A7 := Aside0.mk A70
     clear A70
     simp only [Option.some.injEq, Prod.mk.injEq] at H
     obtain ⟨rfl, rfl⟩ := H
     go_enter Try.func158, Try.ntmps158
     go_wp2_with (first | ((with_reducible refine gate_callee (f := 106) rfl ?_); refine gl (some 8) Try.func106 #[.slice A0 l0.length c0] ?_; (with_reducible refine (impl_AddValues.calls k _ _ l0 t906 false _ ?side1 ?side2 A2.out).mono ?_); (case side1 => repeat (first | exact HR0.out | (with_reducible refine Kd.C_alloc ?_ _) | (with_reducible refine Kd.C_drewN ?_ _) | (with_reducible refine Kd.C_drew ?_))); (case side2 => exact HC0.out); rintro e w8 ⟨rfl, hb⟩; refine ⟨_, rfl, ?_⟩; replace HB := ak (below_step bl hb); (try clear hb); (try clear hb2); (try clear hk); (try clear hi)) | ((with_reducible refine gate_callee (f := 185) rfl ?_); refine gl (some 20) Try.func185 #[.int .i64 t906, .int .i64 (l0.length : Int)] ?_; (with_reducible refine (impl_FloorDiv.calls t906 (l0.length : Int) t908 _ A7.out).mono ?_); rintro e w' ⟨rfl, ⟨nd, rfl⟩⟩; refine ⟨_, rfl, ?_⟩))
     go_ret2
     exact ⟨ew, bl⟩

end Go.Proofs.Ytplekidnlofioaa.Q
namespace Go.Proofs.Ytplekidnlofioaa.Q
open Go.RowKit Go.Proofs.YtplekidnlofioaaW.PrintWords Go.Proofs.YtplekidnlofioaaW.PrintLast Go.Proofs.YtplekidnlofioaaW.PrintMore
attribute [local go_sem] max2_int min2_int max_two min_two max_three min_three max_four min_four   -- for this text's walks alone
set_option linter.unusedVariables false
set_option linter.unusedSimpArgs false

/-! ### impl_AverageOf: function 105 -/
def impl_AverageOf.l0 : Nat → Int → Int → List Int → List (S37) → Int → Int → Option (Int × Bool)
 | 0, _, _, _, _, _, _ => none
 | k + 1, x3, x4, x14, x24, x25, x26 => if x26 < x25 then (if 0 ≤ x26 then (if x26 < (x24.length : Int) then (if ((rd_T37 x24 x26).f0) > x3 then (if ((rd_T37 x24 x26).f0) ≤ x4 then (if x14.length < 17592186044416 then (impl_AverageOf.l0 k x3 x4 (x14 ++ [(rd_T37 x24 x26).f1]) x24 x25 (wrap64 (x26 + 1))) else (none)) else (impl_AverageOf.l0 k x3 x4 x14 x24 x25 (wrap64 (x26 + 1)))) else (impl_AverageOf.l0 k x3 x4 x14 x24 x25 (wrap64 (x26 + 1)))) else (none)) else (none)) else ((impl_MeanOf.f k x14).bind fun bt918 => (some (bt918.1, bt918.2)))
def impl_AverageOf.f (k : Nat) (l0 : List (S81)) (a1 : ByteArray) (a2 : ByteArray) (a3 : Int) (a4 : Int) : Option (Int × Bool) := (impl_SeriesOf.f k l0 a1 a2).bind fun bt909 => (impl_AverageOf.l0 k a3 a4 ([] : List Int) bt909.1 (bt909.1.length : Int) 0)
theorem impl_AverageOf.mono_l : ∀ k, (∀ y0 y1 y2 y3 y4 y5, LeO (impl_AverageOf.l0 k y0 y1 y2 y3 y4 y5) (impl_AverageOf.l0 (k + 1) y0 y1 y2 y3 y4 y5))
 | 0 => fun _ _ _ _ _ _ r h => by simp [impl_AverageOf.l0] at h
 | k + 1 => by
  have ih0 := impl_AverageOf.mono_l k
  · intro y0 y1 y2 y3 y4 y5
    unfold impl_AverageOf.l0
    repeat' first
    | (with_reducible exact ih0 _ _ _ _ _ _)
    | (with_reducible exact impl_MeanOf.mono _ _)
    | (with_reducible exact impl_SeriesOf.mono _ _ _ _)
    | (with_reducible exact LeO.refl _)
    | (with_reducible exact LeO.none _)
    | (with_reducible refine LeO.ite ?_ ?_)
    | (with_reducible refine LeO.bind ?_ (fun _ => ?_))
    | exact ih0 _ _ _ _ _ _
    | exact impl_MeanOf.mono _ _
    | exact impl_SeriesOf.mono _ _ _ _
    | exact LeO.none _
    | refine LeO.ite ?_ ?_
    | refine LeO.bind ?_ (fun _ => ?_)
theorem impl_AverageOf.mono : ∀ a0 a1 a2 a3 a4 k, LeO (impl_AverageOf.f k a0 a1 a2 a3 a4) (impl_AverageOf.f (k + 1) a0 a1 a2 a3 a4) := by
 intro a0 a1 a2 a3 a4 k
 have ih0 := impl_AverageOf.mono_l k
 unfold impl_AverageOf.f
 repeat' first
  | (with_reducible exact ih0 _ _ _ _ _ _)
  | (with_reducible exact impl_MeanOf.mono _ _)
  | (with_reducible exact impl_SeriesOf.mono _ _ _ _)
  | (with_reducible exact LeO.refl _)
  | (with_reducible exact LeO.none _)
  | (with_reducible refine LeO.ite ?_ ?_)
  | (with_reducible refine LeO.bind ?_ (fun _ => ?_))
  | exact ih0 _ _ _ _ _ _
  | exact impl_MeanOf.mono _ _
  | exact impl_SeriesOf.mono _ _ _ _
  | exact LeO.none _
  | refine LeO.ite ?_ ?_
  | refine LeO.bind ?_ (fun _ => ?_)
set_option maxHeartbeats 8000000 in
set_option maxRecDepth 100000 in
theorem impl_AverageOf.calls (k : Nat) (A0 : Option Addr) (c0 : Nat) (l0 : List (S81)) (a1 : ByteArray) (a2 : ByteArray) (a3 : Int) (a4 : Int) (r1 : Int) (r2 : Bool) (w : World) (hr0 : Kd.C k81 w A0 l0.length l0) (hc0 : l0.length ≤ c0) (h : impl_AverageOf.f k l0 a1 a2 a3 a4 = some (r1, r2)) :
 Calls Try.prog 105 #[.slice A0 l0.length c0, .string a1, .string a2, .int .i64 a3, .int .i64 a4] w fun e w' => e = .returned (.tuple #[.int .i64 r1, .bool r2]) ∧ Below w.heap.size w w' := by
 have hu37 := Try.underlying37
 have HR0 := Aside0.mk hr0
 have HC0 := Aside0.mk hc0
 clear hr0 hc0
 have HB := Aside0.mk (Below.refl w.heap.size w)
 have H : ((impl_SeriesOf.f k l0 a1 a2).bind fun bt909 => (impl_AverageOf.l0 k a3 a4 ([] : List Int) bt909.1 (bt909.1.length : Int) 0)) = some (r1, r2) := h
 clear h
 replace H := Option.bind_eq_some_iff.mp H
 obtain ⟨⟨t909, t910⟩, A60, H⟩ := H
 replace H : (impl_AverageOf.l0 k a3 a4 ([] : List Int) t909 (t909.length : Int) 0) = some (r1, r2) := H
 have A6 := Aside0.mk A60
 clear A60
 have H' := Aside0.mk H
 clear H
 go_enter Try.func105, Try.ntmps105
 go_wp2_with (first | ((with_reducible refine gate_callee (f := 15) rfl ?_); refine gl (some 21) Try.func15 #[.slice A0 l0.length c0, .string a1, .string a2] ?_; (with_reducible refine (impl_SeriesOf.calls k _ _ l0 a1 a2 t909 t910 _ ?side1 ?side2 A6.out).mono ?_); (case side1 => repeat (first | exact HR0.out | (with_reducible refine Kd.C_alloc ?_ _) | (with_reducible refine Kd.C_drewN ?_ _) | (with_reducible refine Kd.C_drew ?_))); (case side2 => exact HC0.out); rintro e w7 ⟨v911, rfl, ho0, hb⟩; refine ⟨_, rfl, ?_⟩; have HO912 := ak (Kd.R_lower ho0 (below_size bl)); replace HB := ak (below_step bl hb); (try clear hb); (try clear hb2); (try clear hk); (try clear hi); (try clear ho0); obtain ⟨Ao8, co8, eo8⟩ := Kd.R_slice HO912.out; subst eo8))
 go_loopg [14, 26] k (fun kq v14 v26 w' => ∃ (x14_1 : List Int) (x26_1 : Int), v26 = .int .i64 x26_1 ∧ Aside0 (impl_AverageOf.l0 kq a3 a4 x14_1 t909 (t909.length : Int) x26_1 = some (r1, r2)) ∧ Aside0 (kq ≤ k) ∧ Aside0 (Kd.R (Kd.int .i64) 3 w' w.heap.size (fun _ => True) v14 x14_1) ∧ Aside0 (Kd.R k37 37 w' w.heap.size (fun _ => True) (.slice Ao8 t909.length co8) t909) ∧ Aside0 (Below w.heap.size w w'))
 case atStart => exact ⟨(([] : List Int)), (0), es, H', ⟨Nat.le_refl _⟩, ⟨by first | exact Kd.R_nil _ _ _ _ _ | exact Kd.N_nil _ _ _ _ _ | exact Kd.V_nil _ _ _ _ _ | exact Kd.Q_nil _ _ _ _ _ | exact Kd.S_nil _ _ _ _ _⟩, ⟨kr HO912⟩, ⟨bl⟩⟩
 case round =>
  clear H'
  try clear c1
  try clear p2
  obtain ⟨x14_1, x26_1, rfl, HA, HK1, HO_14, HO_24, HB⟩ := hrel
  cases gk with
  | zero => exact absurd HA.out (by simp [impl_AverageOf.l0])
  | succ k1 =>
   have H := HA.out
   clear HA
   simp only [impl_AverageOf.l0] at H
   by_cases c9 : x26_1 < (t909.length : Int)
   · rw [if_pos c9] at H
     have c9b0 : decide (x26_1 < (t909.length : Int)) = true := decide_eq_true c9
     clear c9
     by_cases c10 : 0 ≤ x26_1
     · rw [if_pos c10] at H
       have c10b0 : decide (0 ≤ x26_1) = true := decide_eq_true c10
       clear c10
       by_cases c11 : x26_1 < (t909.length : Int)
       · rw [if_pos c11] at H
         have c11b0 : decide (x26_1 < (t909.length : Int)) = true := decide_eq_true c11
         clear c11
         by_cases c12 : ((rd_T37 t909 x26_1).f0) > a3
         · rw [if_pos c12] at H
           have c12b0 : decide (a3 < ((rd_T37 t909 x26_1).f0)) = true := decide_eq_true c12
           clear c12
           by_cases c13 : ((rd_T37 t909 x26_1).f0) ≤ a4
           · rw [if_pos c13] at H
             have c13b0 : decide (((rd_T37 t909 x26_1).f0) ≤ a4) = true := decide_eq_true c13
             clear c13
             by_cases c14 : x14_1.length < 17592186044416
             · rw [if_pos c14] at H
               have LMc14 := Aside0.mk c14
               clear c14
               obtain ⟨y915, hy915⟩ : ∃ y_ : List Int, y_ = (x14_1 ++ [(rd_T37 t909 x26_1).f1]) := ⟨_, rfl⟩
               replace H : (impl_AverageOf.l0 k1 a3 a4 y915 t909 (t909.length : Int) (wrap64 (x26_1 + 1))) = some (r1, r2) := by first | (rw [hy915]; with_reducible exact H) | (have H2_ := (Option.bind_some _ _).symm.trans H; rw [hy915]; with_reducible exact H2_) | (have H2_ := (Option.bind_some _ _).symm.trans H; with_reducible exact H2_) | with_reducible exact H | (rw [hy915]; exact H) | exact H
               have Ny915 := Aside0.mk hy915
               clear hy915
               have H' := Aside0.mk H
               clear H
               have p913 : 0 ≤ (x26_1 : Int) := of_decide_eq_true am
               have q913 : x26_1 < (t909.length : Int) := of_decide_eq_true am
               obtain ⟨ad913, e913, hx913_0, hx913_1⟩ := at_T37 (Kd.R_reads' HO_24.out).2.2 x26_1 p913 q913
               cases e913
               replace p913 := eq_true p913
               replace q913 := eq_true q913
               go_wp2_with (first | ((with_reducible refine gate_dst (N := 16) rfl ?_); refine bx 16 #[.int .i64 0, .int .i64 0] 37 ?_; intro gb914 hg w15 hbox hb; replace HO_14 := ak (Kd.R_below (kr HO_14) hb); replace HO_24 := ak (Kd.R_below (Kd.R_elderB (kr HO_24) gb914 (Nat.le_of_eq hg.symm)) hb); have BK914 := ak hbox; have GW914 := gs hg bl; have GE914 := gs hg bl; replace HB := ak (below_step bl hb); clear hb hbox hg; obtain ⟨hcz16_0, hcz16_1, hfz16_0, hfz16_1⟩ := cz2 BK914) | ((with_reducible refine gate_builtin (b := .append) (xs := #[.tmp 40, .tmp 43]) rfl ?_); at_builtin; refine Kd.R_append (Kd.int .i64) (w0 := w) w.heap.size rfl (.tmp 40) (.tmp 43) 25 3 (.int .i64 0) 8 rfl Try.underlying25 info3 rfl (by decide) (by omega) u14 x14_1 ((rd_T37 t909 x26_1).f1) [.int .i64 ((rd_T37 t909 x26_1).f1)] (fun _ => True) (fun _ => False) rfl (by first | (go_simp; done) | (go_simp; rfl)) ?aP (fun _ hk => hk.elim) ?aF ?aO ?aB ?aS ?aL ?_; (case aP => exact rfl); (case aB => exact (bl1 GE914)); (case aF => exact (fun _ _ => trivial)); (case aO => exact (by (with_reducible repeat (first | apply Kd.R_alloc | apply Kd.R_drewN | apply Kd.R_drew)); exact Kd.R_mono (Kd.R_far (p := ⟨gb914, 1, none⟩) (Kd.R_far (p := ⟨gb914, 0, none⟩) (Kd.R_types HO_14.out BK914.out (by decide)) (fun _ hk => hk.2) (.int .i64 ((rd_T37 t909 x26_1).f0))) (fun _ hk => hk.2) (.int .i64 ((rd_T37 t909 x26_1).f1))) (fun _ hk => trivial))); (case aS => exact (below_size (bl1 GE914))); (case aL => have := LMc14.out; omega); intro v916 w17 ho hb hg hat; rw [← Ny915.out] at ho; replace HO_24 := ak (Kd.R_over' (by (with_reducible repeat (first | apply Kd.R_alloc | apply Kd.R_drewN | apply Kd.R_drew)); exact (Kd.R_mono (Kd.R_far (p := ⟨gb914, 1, none⟩) (Kd.R_far (p := ⟨gb914, 0, none⟩) (Kd.R_mono HO_24.out (fun k_ hk => (⟨hk, hk.2⟩ : _ ∧ k_ ≠ gb914))) (fun _ hk => hk.2) (.int .i64 ((rd_T37 t909 x26_1).f0))) (fun _ hk => hk.2) (.int .i64 ((rd_T37 t909 x26_1).f1))) (fun _ h_ => h_.1))) (Kd.R_typed (by (with_reducible repeat (first | apply Kd.R_alloc | apply Kd.R_drewN | apply Kd.R_drew)); exact (Kd.R_mono (Kd.R_far (p := ⟨gb914, 1, none⟩) (Kd.R_far (p := ⟨gb914, 0, none⟩) (Kd.R_types HO_14.out BK914.out (by decide)) (fun _ hk => hk.2) (.int .i64 ((rd_T37 t909 x26_1).f0))) (fun _ hk => hk.2) (.int .i64 ((rd_T37 t909 x26_1).f1))) (fun _ h_ => h_.1)))) (by decide) hg); replace BK914 := ak (blk_grown (g := gb914) (o := .cells #[.int .i64 ((rd_T37 t909 x26_1).f0), .int .i64 ((rd_T37 t909 x26_1).f1)] 37 (0, 0)) (by (with_reducible repeat (first | refine blk_drewN ?_ _ | refine blk_drew ?_ | refine blk_alloc ?_ _)); refine blk_put (cs := #[.int .i64 ((rd_T37 t909 x26_1).f0), .int .i64 0]) ?_ 1 _ rfl; (with_reducible repeat (first | refine blk_drewN ?_ _ | refine blk_drew ?_ | refine blk_alloc ?_ _)); refine blk_put (cs := #[.int .i64 0, .int .i64 0]) ?_ 0 _ rfl; (with_reducible repeat (first | refine blk_drewN ?_ _ | refine blk_drew ?_ | refine blk_alloc ?_ _)); exact BK914.out) hg (Kd.R_ne HO_14.out BK914.out (by decide))); replace HB := ak hb; have HO917 := ak ho; clear HO_14; clear ho hb hg hat))
               go_roundg k1
               case measure => have := HK1.out; omega
               case rel => exact ⟨(y915), (wrap64 (x26_1 + 1)), es, H', ⟨kp⟩, ⟨kr HO917⟩, ⟨by (with_reducible repeat (first | apply Kd.R_alloc | apply Kd.R_drewN | apply Kd.R_drew)); exact Kd.R_mono HO_24.out (fun _ hk => trivial)⟩, ⟨bl1 GE914⟩⟩
             · rw [if_neg c14] at H
               exact absurd H (by simp)
           · rw [if_neg c13] at H
             have c13b0 : decide (((rd_T37 t909 x26_1).f0) ≤ a4) = false := decide_eq_false c13
             clear c13
             have H' := Aside0.mk H
             clear H
             have p913 : 0 ≤ (x26_1 : Int) := of_decide_eq_true am
             have q913 : x26_1 < (t909.length : Int) := of_decide_eq_true am
             obtain ⟨ad913, e913, hx913_0, hx913_1⟩ := at_T37 (Kd.R_reads' HO_24.out).2.2 x26_1 p913 q913
             cases e913
             replace p913 := eq_true p913
             replace q913 := eq_true q913
             go_wp2_with (first | ((with_reducible refine gate_dst (N := 16) rfl ?_); refine bx 16 #[.int .i64 0, .int .i64 0] 37 ?_; intro gb914 hg w18 hbox hb; replace HO_14 := ak (Kd.R_below (kr HO_14) hb); replace HO_24 := ak (Kd.R_below (Kd.R_elderB (kr HO_24) gb914 (Nat.le_of_eq hg.symm)) hb); have BK914 := ak hbox; have GW914 := gs hg bl; have GE914 := gs hg bl; replace HB := ak (below_step bl hb); clear hb hbox hg; obtain ⟨hcz19_0, hcz19_1, hfz19_0, hfz19_1⟩ := cz2 BK914))
             go_roundg k1
             case measure => have := HK1.out; omega
             case rel => exact ⟨(x14_1), (wrap64 (x26_1 + 1)), es, H', ⟨kp⟩, ⟨by (with_reducible repeat (first | apply Kd.R_alloc | apply Kd.R_drewN | apply Kd.R_drew)); exact Kd.R_mono (Kd.R_far (p := ⟨gb914, 1, none⟩) (Kd.R_far (p := ⟨gb914, 0, none⟩) (Kd.R_types HO_14.out BK914.out (by decide)) (fun _ hk => hk.2) (.int .i64 ((rd_T37 t909 x26_1).f0))) (fun _ hk => hk.2) (.int .i64 ((rd_T37 t909 x26_1).f1))) (fun _ hk => trivial)⟩, ⟨by (with_reducible repeat (first | apply Kd.R_alloc | apply Kd.R_drewN | apply Kd.R_drew)); exact Kd.R_mono (Kd.R_far (p := ⟨gb914, 1, none⟩) (Kd.R_far (p := ⟨gb914, 0, none⟩) (Kd.R_mono HO_24.out (fun k_ hk => (⟨hk, hk.2⟩ : _ ∧ k_ ≠ gb914))) (fun _ hk => hk.2) (.int .i64 ((rd_T37 t909 x26_1).f0))) (fun _ hk => hk.2) (.int .i64 ((rd_T37 t909 x26_1).f1))) (fun _ hk => trivial)⟩, ⟨bl1 GE914⟩⟩
         · rw [if_neg c12] at H
           have c12b0 : decide (a3 < ((rd_T37 t909 x26_1).f0)) = false := decide_eq_false c12
           clear c12
           have H' := Aside0.mk H
           clear H
           have p913 : 0 ≤ (x26_1 : Int) := of_decide_eq_true am
           have q913 : x26_1 < (t909.length : Int) := of_decide_eq_true am
           obtain ⟨ad913, e913, hx913_0, hx913_1⟩ := at_T37 (Kd.R_reads' HO_24.out).2.2 x26_1 p913 q913
           cases e913
           replace p913 := eq_true p913
           replace q913 := eq_true q913
           go_wp2_with (first | ((with_reducible refine gate_dst (N := 16) rfl ?_); refine bx 16 #[.int .i64 0, .int .i64 0] 37 ?_; intro gb914 hg w20 hbox hb; replace HO_14 := ak (Kd.R_below (kr HO_14) hb); replace HO_24 := ak (Kd.R_below (Kd.R_elderB (kr HO_24) gb914 (Nat.le_of_eq hg.symm)) hb); have BK914 := ak hbox; have GW914 := gs hg bl; have GE914 := gs hg bl; replace HB := ak (below_step bl hb); clear hb hbox hg; obtain ⟨hcz21_0, hcz21_1, hfz21_0, hfz21_1⟩ := cz2 BK914))
           go_roundg k1
           case measure => have := HK1.out; omega
           case rel => exact ⟨(x14_1), (wrap64 (x26_1 + 1)), es, H', ⟨kp⟩, ⟨by (with_reducible repeat (first | apply Kd.R_alloc | apply Kd.R_drewN | apply Kd.R_drew)); exact Kd.R_mono (Kd.R_far (p := ⟨gb914, 1, none⟩) (Kd.R_far (p := ⟨gb914, 0, none⟩) (Kd.R_types HO_14.out BK914.out (by decide)) (fun _ hk => hk.2) (.int .i64 ((rd_T37 t909 x26_1).f0))) (fun _ hk => hk.2) (.int .i64 ((rd_T37 t909 x26_1).f1))) (fun _ hk => trivial)⟩, ⟨by (with_reducible repeat (first | apply Kd.R_alloc | apply Kd.R_drewN | apply Kd.R_drew)); exact Kd.R_mono (Kd.R_far (p := ⟨gb914, 1, none⟩) (Kd.R_far (p := ⟨gb914, 0, none⟩) (Kd.R_mono HO_24.out (fun k_ hk => (⟨hk, hk.2⟩ : _ ∧ k_ ≠ gb914))) (fun _ hk => hk.2) (.int .i64 ((rd_T37 t909 x26_1).f0))) (fun _ hk => hk.2) (.int .i64 ((rd_T37 t909 x26_1).f1))) (fun _ hk => trivial)⟩, ⟨bl1 GE914⟩⟩
       · rw [if_neg c11] at H
         exact absurd H (by simp)
     · rw [if_neg c10] at H
       exact absurd H (by simp)
   · rw [if_neg c9] at H
     have c9b0 : decide (x26_1 < (t909.length : Int)) = false := decide_eq_false c9
     clear c9
     replace H := Option.bind_eq_some_iff.mp H
     obtain ⟨⟨t918, t919⟩, A220, H⟩ := H
     replace H : (some (t918, t919)) = some (r1, r2) := H
     have A22 := Aside0.mk A220
     clear A220
     simp only [Option.some.injEq, Prod.mk.injEq] at H
     obtain ⟨rfl, rfl⟩ := H
     obtain ⟨Ao23, co23, eo23⟩ := Kd.R_slice HO_14.out
     subst eo23
     go_wp2_with (first | ((with_reducible refine gate_callee (f := 158) rfl ?_); refine gl (some 47) Try.func158 #[.slice Ao23 x14_1.length co23] ?_; (with_reducible refine (impl_MeanOf.calls k1 _ _ x14_1 t918 t919 _ ?side1 ?side2 A22.out).mono ?_); (case side1 => repeat (first | exact (Kd.R_reads' HO_14.out).2.2 | (with_reducible refine Kd.C_alloc ?_ _) | (with_reducible refine Kd.C_drewN ?_ _) | (with_reducible refine Kd.C_drew ?_))); (case side2 => exact (Kd.R_reads' HO_14.out).2.1); rintro e w24 ⟨rfl, hb⟩; refine ⟨_, rfl, ?_⟩; replace HO_14 := ak (Kd.R_below (kr HO_14) hb); replace HO_24 := ak (Kd.R_below (kr HO_24) hb); replace HB := ak (below_step bl hb); (try clear hb); (try clear hb2); (try clear hk); (try clear hi)))
     go_ret2
     exact ⟨ew, bl⟩

end Go.Proofs.Ytplekidnlofioaa.Q
namespace Go.Proofs.Ytplekidnlofioaa.Q
open Go.RowKit Go.Proofs.YtplekidnlofioaaW.PrintWords Go.Proofs.YtplekidnlofioaaW.PrintLast
def isNamed (a b : ByteArray) (s : S81) : Bool := decide (s.f0.toList = a.toList) && decide (s.f1.toList = b.toList)
theorem spec_l03At_l0_ev (xs : List S81) (hx : xs.length < 4611686018427387904) (a b : ByteArray) : ∀ suf pre, xs = pre ++ suf → ∃ t : Int, Ev (fun k => spec_l03At.l0 k xs a b (pre.length : Int)) t ∧ ((t = -1 ∧ suf.find? (isNamed a b) = none) ∨ ∃ (j : Nat) (s : S81), t = (j : Int) ∧ xs[j]? = some s ∧ suf.find? (isNamed a b) = some s) := by
  intro suf
  induction suf with
  | nil =>
    intro pre h
    refine ⟨-1, Ev.step (fun k => by rw [spec_l03At.l0]) ?_, .inl ⟨rfl, rfl⟩⟩
    have hlt : ¬ ((pre.length : Int) < (xs.length : Int)) := by rw [h]; simp
    simp only [if_neg hlt]
    exact Ev.now _
  | cons s suf ih =>
    intro pre h
    have hlt : ((pre.length : Int) < (xs.length : Int)) := by rw [h]; exact lt_mid _ _ _
    have hw := wrapn pre.length (by omega)
    have hrd : rd_T81 xs (pre.length : Int) = s := by rw [h]; exact rdS_mid _ _ _
    by_cases hn : isNamed a b s = true
    · refine ⟨(pre.length : Int), Ev.step (fun k => by rw [spec_l03At.l0]) ?_, .inr ⟨pre.length, s, rfl, by rw [h]; simp, by simp [List.find?, hn]⟩⟩
      simp only [isNamed, Bool.and_eq_true, decide_eq_true_eq] at hn
      simp only [if_pos hlt, if_pos (nn _), hrd, hn.1, hn.2, if_true]
      exact Ev.now _
    · obtain ⟨t, h1, h2⟩ := ih (pre ++ [s]) (by rw [h]; simp)
      rw [List.length_append, List.length_singleton] at h1
      refine ⟨t, Ev.step (fun k => by rw [spec_l03At.l0]) ?_, ?_⟩
      · simp only [if_pos hlt, if_pos (nn _), hrd, hw]
        by_cases c1 : s.f0.toList = a.toList
        · by_cases c2 : s.f1.toList = b.toList
          · exact absurd (by simp [isNamed, c1, c2]) hn
          · simp only [c1, c2, if_true, if_false]; exact h1
        · simp only [c1, if_false]; exact h1
      · simpa [List.find?, hn] using h2
theorem spec_l03Points_l0_ev (ps : List S37) (hp : ps.length < 8796093022208) : ∀ suf pre, ps = pre ++ suf → Ev (fun k => spec_l03Points.l0 k ps pre (pre.length : Int)) ps := by
  intro suf
  induction suf with
  | nil =>
    intro pre h
    refine Ev.step (fun k => by rw [spec_l03Points.l0]) ?_
    have hlt : ¬ ((pre.length : Int) < (ps.length : Int)) := by rw [h]; simp
    simp only [if_neg hlt]
    rw [h, List.append_nil]
    exact Ev.now _
  | cons p suf ih =>
    intro pre h
    have hlt : ((pre.length : Int) < (ps.length : Int)) := by rw [h]; exact lt_mid _ _ _
    have hw := wrapn pre.length (by omega)
    have hrd : rd_T37 ps (pre.length : Int) = p := by rw [h]; exact rdP_mid _ _ _
    have hr := ih (pre ++ [p]) (by rw [h]; simp)
    rw [List.length_append, List.length_singleton] at hr
    refine Ev.step (fun k => by rw [spec_l03Points.l0]) ?_
    have hb : pre.length < 8796093022208 := by omega
    simp only [if_pos hlt, if_pos (nn _), hrd, hw, if_pos hb]
    exact hr
theorem spec_l03Points_ev (ps : List S37) (hp : ps.length < 8796093022208) : Ev (fun k => spec_l03Points.f k ps) ps := spec_l03Points_l0_ev ps hp ps [] rfl
theorem stFrom_all : ∀ (l : List S81) (prev : Option S81), stFrom prev l = true → ∀ s ∈ l, serOk s = true
  | [], _, _, s, hs => by cases hs
  | x :: r, prev, h, s, hs => by
    simp only [stFrom, Bool.and_eq_true] at h
    rcases List.mem_cons.1 hs with rfl | hs
    · exact h.1.1
    · exact stFrom_all r _ h.2 s hs
theorem storeOk_all {l : List S81} (h : storeOk l = true) : ∀ s ∈ l, serOk s = true := by
  simp only [storeOk, Bool.and_eq_true] at h
  exact stFrom_all l _ h.2
theorem serOk_len {s : S81} (h : serOk s = true) : 1 ≤ s.f2.length ∧ s.f2.length ≤ 12 := by
  simp only [serOk, inB, Bool.and_eq_true, decide_eq_true_eq] at h
  omega
theorem clone_v (ps : List S37) (h : ps.length < 8796093022208) : slices_Clone_impl_Point_impl_Point.f ps = some ps := by simp [slices_Clone_impl_Point_impl_Point.f, h]
end Go.Proofs.Ytplekidnlofioaa.Q
namespace Go.Proofs.Ytplekidnlofioaa.Q
open Go.RowKit Go.Proofs.YtplekidnlofioaaW.PrintWords Go.Proofs.YtplekidnlofioaaW.PrintLast
set_option linter.unusedVariables false
set_option linter.unusedSimpArgs false
def idxV {α : Type} (p : α → Bool) : List α → Int
  | [] => -1
  | c :: r => if p c = true then 0 else if idxV p r = -1 then -1 else idxV p r + 1
theorem idxV_none {α : Type} {p : α → Bool} : ∀ {l : List α}, (∀ c ∈ l, p c = false) → idxV p l = -1
  | [], _ => rfl
  | c :: r, h => by
    have h1 := h c List.mem_cons_self
    have h2 := idxV_none (l := r) (fun d hd => h d (List.mem_cons_of_mem _ hd))
    simp [idxV, h1, h2]
theorem idxV_some {α : Type} {p : α → Bool} {c : α} {suf : List α} : ∀ {pre : List α}, (∀ d ∈ pre, p d = false) → p c = true → idxV p (pre ++ c :: suf) = (pre.length : Int)
  | [], _, hc => by simp [idxV, hc]
  | d :: r, h, hc => by
    have h1 := h d List.mem_cons_self
    have h2 := idxV_some (pre := r) (suf := suf) (fun e he => h e (List.mem_cons_of_mem _ he)) hc
    have h3 : ¬ ((r.length : Int) = -1) := by omega
    simp only [List.cons_append, idxV, h1, h2, List.length_cons, if_neg h3]
    simp
theorem idxV_cases {α : Type} (p : α → Bool) : ∀ (l : List α), (idxV p l = -1 ∧ ∀ c ∈ l, p c = false) ∨ ∃ pre c suf, l = pre ++ c :: suf ∧ (∀ d ∈ pre, p d = false) ∧ p c = true ∧ idxV p l = (pre.length : Int)
  | [] => .inl ⟨rfl, fun _ h => by cases h⟩
  | c :: r => by
    by_cases hc : p c = true
    · exact .inr ⟨[], c, r, rfl, (fun _ h => by cases h), hc, by simp [idxV, hc]⟩
    · have hc' : p c = false := by simpa using hc
      rcases idxV_cases p r with ⟨h1, h2⟩ | ⟨pre, d, suf, h1, h2, h3, h4⟩
      · refine .inl ⟨by simp [idxV, hc', h1], fun d hd => ?_⟩
        rcases List.mem_cons.1 hd with rfl | hd
        · exact hc'
        · exact h2 d hd
      · refine .inr ⟨c :: pre, d, suf, by rw [h1]; rfl, fun e he => ?_, h3, ?_⟩
        · rcases List.mem_cons.1 he with rfl | he
          · exact hc'
          · exact h2 e he
        · rw [h1]
          exact idxV_some (pre := c :: pre) (fun e he => by
            rcases List.mem_cons.1 he with rfl | he
            · exact hc'
            · exact h2 e he) h3
theorem cells2 {cs : List Value} (h : cs.length = 2) : ∃ c0 c1, cs = [c0, c1] := by
  match cs, h with
  | [a, b], _ => exact ⟨a, b, rfl⟩
theorem cells3 {cs : List Value} (h : cs.length = 3) : ∃ c0 c1 c2, cs = [c0, c1, c2] := by
  match cs, h with
  | [a, b, c], _ => exact ⟨a, b, c, rfl⟩
/-- A run of cells of a block is written: the block's cells ahead of it, and all other blocks, stay. -/
theorem setCells_blk (g : Nat) (e : TypeId) : ∀ (vs : List Value) (o : Nat) (w : World) (cur : Array Value), w.heap[g]? = some (.cells cur e (0, 0)) → ∃ cur' : Array Value, (w.setCells g o vs).heap[g]? = some (.cells cur' e (0, 0)) ∧ cur'.size = cur.size ∧ ∀ m, m ≤ o → cur'.toList.take m = cur.toList.take m
  | [], _, _, cur, h => ⟨cur, h, rfl, fun _ _ => rfl⟩
  | v :: r, o, w, cur, h => by
    obtain ⟨cur', h1, h2, h3⟩ := setCells_blk g e r (o + 1) (w.setCell ⟨g, o, none⟩ v) (cur.setIfInBounds o v) (blk_put h o v rfl)
    refine ⟨cur', h1, by rw [h2, Array.size_setIfInBounds], fun m hm => ?_⟩
    rw [h3 m (by omega), Array.toList_setIfInBounds, List.take_set_of_le hm]
theorem setCells_far (g : Nat) : ∀ (vs : List Value) (o : Nat) (w : World) (k : Nat), k ≠ g → (w.setCells g o vs).heap[k]? = w.heap[k]?
  | [], _, _, _, _ => rfl
  | v :: r, o, w, k, h => (setCells_far g r (o + 1) _ k h).trans (Below.heap_setCell w ⟨g, o, none⟩ v k h)
theorem setCells_size (g : Nat) : ∀ (vs : List Value) (o : Nat) (w : World), (w.setCells g o vs).heap.size = w.heap.size
  | [], _, _ => rfl
  | v :: r, o, w => (setCells_size g r (o + 1) _).trans (by simp [World.setCell])
theorem setCells_below {B g : Nat} {w0 : World} (hg : B ≤ g) : ∀ (vs : List Value) (o : Nat) (w : World), Below B w0 w → Below B w0 (w.setCells g o vs)
  | [], _, _, h => h
  | v :: r, o, w, h => setCells_below hg r (o + 1) _ (h.setCell hg _)
/-- clear of a row of elements of several cells. -/
theorem run_clear_n {P : Program} {n : Nat} {e' : TypeId} (w : World) (t e ty : TypeId) (z : Value) (zs : Array Value) (ht : P.underlying t = some (.slice e)) (hv : ∀ w, (zeroValue e).run P w = .ok z w) (hz : z.cells = zs) (h1 : ∀ q ∈ (Builtin.zeroCells zs n).toList, q.oneCell' = true) (b o c : Nat) (hn : 0 < n)
    (cur : Array Value) (hb : w.heap[b]? = some (.cells cur e' (0, 0))) (hl : o + n * zs.size ≤ cur.size) :
    (Builtin.clear_ #[t] ty #[.slice (some ⟨b, o, none⟩) n c]).run P w = .ok (.tuple #[]) (w.setCells b o (Builtin.zeroCells zs n).toList) := by
  have hlen : (Builtin.zeroCells zs n).toList.length = n * zs.size := by simp [Builtin.zeroCells]
  have hst := run_storeCells_cells (P := P) b o (Builtin.zeroCells zs n).toList 0 w (fun j hj => by rw [blk_cell hb, Array.getElem?_eq_getElem (by rw [hlen] at hj; omega)]; rfl) (fun j _ => blk_frozen hb _) h1
  simp only [Nat.add_zero] at hst
  obtain ⟨m, rfl⟩ : ∃ m, n = m + 1 := ⟨n - 1, by omega⟩
  simp [Builtin.clear_, run_underlying ht, hv, hz, hst]
theorem zeroCells_one (zs : Array Value) (n : Nat) (h : ∀ i, i < zs.size → (zs[i]!).oneCell' = true) (hs : 0 < zs.size) : ∀ q ∈ (Builtin.zeroCells zs n).toList, q.oneCell' = true := by
  intro q hq
  simp only [Builtin.zeroCells, Array.toList_map, List.mem_map] at hq
  obtain ⟨i, _, rfl⟩ := hq
  exact h _ (Nat.mod_lt _ hs)
/-- The block of a row of the call's own. -/
theorem raw_blk {sz : Nat} {e : TypeId} {w : World} {base g n cap : Nat} {ok : Nat → Prop} {rows : List (List Value)} (h : (Kd.raw sz).R e w base ok (.slice (some ⟨g, 0, none⟩) n cap) rows) : ∃ cur : Array Value, w.heap[g]? = some (.cells cur e (0, 0)) ∧ n ≤ cap ∧ cap ≤ maxLen ∧ cur.size = cap * sz ∧ n = rows.length := by
  have hn := (Kd.R_reads' h).1
  obtain ⟨_, inner, ho, _⟩ := h
  rcases ho.2 with ⟨hv, _⟩ | ⟨g', cap', cur, hv, _, hb, h1, h2, h3, _⟩
  · cases hv
  · injection hv with ha hm hc
    injection ha with ha
    injection ha with ha
    subst ha hc
    exact ⟨cur, hb, by rw [hm]; exact h1, h2, h3, hn⟩
/-- Behind a clear of its tail the row, cut to its head, is a row. -/
theorem raw_cut {sz : Nat} {e : TypeId} {w w1 : World} {base g n m cap : Nat} {ok ok' : Nat → Prop} {a b : List (List Value)} {cur cur' : Array Value} (h : (Kd.raw sz).R e w base ok (.slice (some ⟨g, 0, none⟩) n cap) (a ++ b)) (hm : m = a.length) (hb : w.heap[g]? = some (.cells cur e (0, 0))) (hb' : w1.heap[g]? = some (.cells cur' e (0, 0))) (hs : cur'.size = cur.size)
    (ht : ∀ k, k ≤ m * sz → cur'.toList.take k = cur.toList.take k) (hok : ok' g) : (Kd.raw sz).R e w1 base ok' (.slice (some ⟨g, 0, none⟩) m cap) a := by
  have h2 := Kd.R_take h (m := m) (by rw [List.length_append]; omega)
  rw [hm, List.take_left] at h2
  obtain ⟨_, inner, ho, hr⟩ := h2
  refine ⟨fun k hk => ?_, inner, ⟨ho.1, .inr ?_⟩, hr⟩
  · have : g = k := by simpa [Value.ownBlock] using hk
    exact this ▸ hok
  · rcases ho.2 with ⟨hv, _⟩ | ⟨g', cap', cu, hv, h0, h1, h3, h4, h5, h6⟩
    · cases hv
    · injection hv with ha hm' hc
      injection ha with ha
      injection ha with ha
      subst ha hc
      rw [hb] at h1
      injection h1 with h1
      injection h1 with h1 _ _
      subst h1
      exact ⟨g, cap, cur', by rw [hm], h0, hb', h3, h4, by rw [hs]; exact h5, by rw [ht _ (by rw [hm]; exact Nat.le_refl _)]; exact h6⟩
end Go.Proofs.Ytplekidnlofioaa.Q
namespace Go.Proofs.Ytplekidnlofioaa.Q
open Go.RowKit Go.Proofs.YtplekidnlofioaaW.PrintWords Go.Proofs.YtplekidnlofioaaW.PrintLast Go.Proofs.YtplekidnlofioaaW.PrintMore
attribute [local go_sem] max2_int min2_int max_two min_two max_three min_three max_four min_four
set_option linter.unusedVariables false
set_option linter.unusedSimpArgs false
set_option maxHeartbeats 8000000 in
set_option maxRecDepth 100000 in
theorem indexFuncP (p : List Value → Bool) (cap_ : Array Value) (rows : List (List Value)) (base : Nat) (ok : Nat → Prop) (v : Value) (w : World) (hR : (Kd.raw 2).R 37 w base ok v rows) (hlen : rows.length ≤ 4611686018427387000)
    (hp : ∀ W cs, Kept w W (fun k => some k = v.ownBlock) → cs ∈ rows → Calls Try.prog 74 (#[.agg cs.toArray] ++ cap_) W fun e W' => e = .returned (.bool (p cs)) ∧ Below W.heap.size W W') :
    Calls Try.prog 131 #[v, .func (.func 74) #[] cap_] w fun e w' => e = .returned (.int .i64 (idxV p rows)) ∧ Below w.heap.size w w' := by
  have HO := ak hR
  have HP := ak hp
  have HL := ak hlen
  have HB := ak (Below.refl w.heap.size w)
  obtain ⟨Ao, co, eo⟩ := Kd.R_slice hR
  subst eo
  clear hR hp hlen
  go_enter Try.func131, Try.ntmps131
  go_wp2
  go_loopg [5, 8] rows.length (fun kq v5 v8 w' => ∃ (pre suf : List (List Value)) (x8 : Int), v8 = .int .i64 x8 ∧ Aside0 (rows = pre ++ suf ∧ x8 = (pre.length : Int) ∧ suf.length ≤ kq ∧ ∀ c ∈ pre, p c = false) ∧ Aside0 (Below w.heap.size w w'))
  case atStart => exact ⟨[], rows, 0, rfl, ⟨rfl, rfl, Nat.le_refl _, fun c hc => by cases hc⟩, ⟨bl⟩⟩
  case round =>
    obtain ⟨pre, suf, x8, rfl, HA, HB⟩ := hrel
    obtain ⟨h1, h2, h3, h4⟩ := HA.out
    cases suf with
    | nil =>
      have c1 : decide (x8 < (rows.length : Int)) = false := decide_eq_false (by rw [h1, List.append_nil]; omega)
      have e1 : idxV p rows = -1 := by rw [h1, List.append_nil]; exact idxV_none h4
      have E1 := ak e1
      clear e1 h1 h2 h3 h4
      go_wp2
      go_ret
      exact ⟨by first | rfl | (rw [E1.out]; rfl), bl⟩
    | cons c suf =>
      have h5 : rows.length = pre.length + (suf.length + 1) := by rw [h1, List.length_append, List.length_cons]
      have hL := HL.out
      have c1 : decide (x8 < (rows.length : Int)) = true := decide_eq_true (by omega)
      have pz : 0 ≤ x8 := by omega
      have qz : x8 < ((rows.length : Nat) : Int) := by omega
      obtain ⟨g, cap, eo, gb, gl_, cl, HG⟩ := Kd.R_form HO.out (by omega)
      injection eo with e1_ _ e3_
      subst e1_ e3_
      have HR := Kd.R_below HO.out HB.out
      obtain ⟨cc, hcl, hM, hcc, hfr⟩ := Kd.R_elem HR [] x8 pz qz
      have hget : rows.getD x8.toNat [] = c := by rw [h1, h2, Int.toNat_natCast]; exact getD_mid _ _ _ _
      rw [hget] at hM
      obtain ⟨rfl, hsz, hone⟩ := hM
      obtain ⟨c0, c1, rfl⟩ : ∃ c0 c1, cc = [c0, c1] := cells2 hsz
      have hx_0 : wr.cell? ⟨g, x8.toNat * 2, none⟩ = some c0 := hcc 0 _ rfl
      have hx_1 : wr.cell? ⟨g, x8.toNat * 2 + 1, none⟩ = some c1 := hcc 1 _ rfl
      obtain ⟨x9, hx9⟩ : ∃ y, y = x8 + 1 := ⟨_, rfl⟩
      have w89 : IntKind.i64.wrap (x8 + 1) = x9 := (i64_w _).trans (by rw [hx9]; unfold wrap64; omega)
      have ho_0 : c0.oneCell' = true := hone _ (by simp)
      have ho_1 : c1.oneCell' = true := hone _ (by simp)
      have HC := ak (HP.out _ [c0, c1] (Kept.of_below HB.out _) (by rw [h1]; exact List.mem_append_right _ List.mem_cons_self))
      replace pz := eq_true pz
      replace qz := eq_true qz
      cases hq : p [c0, c1] with
      | true =>
        have e1 : idxV p rows = x8 := by rw [h1, h2]; exact idxV_some h4 hq
        have E1 := ak e1
        rw [hq] at HC
        clear e1 h1 h2 h3 h4 h5 hL HR hcl hcc hfr hsz hone hget hx9 HG gb gl_ cl hq w89
        go_wp2_with (go_at_call 74; refine HC.out.mono ?_; rintro e w' ⟨rfl, hb⟩; replace HB := ak (below_step bl hb); clear hb)
        go_ret
        exact ⟨by first | rfl | (rw [E1.out]; rfl), bl⟩
      | false =>
        have HA2 := ak (show rows = (pre ++ [[c0, c1]]) ++ suf ∧ x9 = ((pre ++ [[c0, c1]]).length : Int) ∧ suf.length ≤ suf.length ∧ ∀ c ∈ pre ++ [[c0, c1]], p c = false from ⟨by rw [h1]; simp, by rw [List.length_append, List.length_singleton]; omega, Nat.le_refl _, fun c hc => by
          rcases List.mem_append.1 hc with hc | hc
          · exact h4 c hc
          · rw [List.mem_singleton.1 hc]; exact hq⟩)
        have H3 := ak h3
        rw [hq] at HC
        clear h1 h2 h3 h4 h5 hL HR hcl hcc hfr hsz hone hget hx9 HG gb gl_ cl hq
        go_wp2_with (go_at_call 74; refine HC.out.mono ?_; rintro e w' ⟨rfl, hb⟩; replace HB := ak (below_step bl hb); clear hb)
        go_roundg suf.length
        case measure => have := H3.out; simp only [List.length_cons] at this; omega
        case rel => exact ⟨pre ++ [[c0, c1]], suf, x9, rfl, HA2, ⟨bl⟩⟩
/-- What is not struck. -/
abbrev keepP (p : List Value → Bool) (l : List (List Value)) : List (List Value) := l.filter fun c => !p c
set_option maxHeartbeats 8000000 in
set_option maxRecDepth 100000 in
theorem deleteFuncP (p : List Value → Bool) (cap_ : Array Value) (rows : List (List Value)) (ok : Nat → Prop) (v : Value) (w0 w : World) (hB : Below w0.heap.size w0 w) (hR : (Kd.raw 2).R 37 w w0.heap.size ok v rows) (hlen : rows.length ≤ 4611686018427387000) (hgd : ∀ c ∈ rows, ∃ a b : Int, c = [Value.int .i64 a, Value.int .i64 b])
    (hp : ∀ W cs, Kept w W (fun k => some k = v.ownBlock) → cs ∈ rows → Calls Try.prog 74 (#[.agg cs.toArray] ++ cap_) W fun e W' => e = .returned (.bool (p cs)) ∧ Below W.heap.size W W') :
    Calls Try.prog 73 #[v, .func (.func 74) #[] cap_] w fun e w' => ∃ v' : Value, e = .returned v' ∧ (Kd.raw 2).R 37 w' w0.heap.size ok v' (rows.filter fun c => !p c) ∧ v'.ownBlock = v.ownBlock ∧ Below w0.heap.size w0 w' ∧ Kept w w' (fun k => some k = v.ownBlock) := by
  have hIF := indexFuncP p cap_ rows w0.heap.size ok v w hR hlen hp
  have HB := ak hB
  rcases idxV_cases p rows with ⟨e1, hall⟩ | ⟨pre, c, suf, e1, hpre, hc, e2⟩
  · have ef : (rows.filter fun c => !p c) = rows := List.filter_eq_self.2 (fun c hc => by simp [hall c hc])
    rw [e1] at hIF
    rw [ef]
    have HI := ak hIF
    have HR := ak hR
    obtain ⟨Ao, co, eo⟩ := Kd.R_slice hR
    subst eo
    clear hp hIF hR hgd ef e1 hall hB
    go_enter Try.func73, Try.ntmps73
    go_wp2_with (go_at_call 131; refine HI.out.mono ?_; rintro e w1 ⟨rfl, hb⟩; have HK := ak (Kept.of_below hb (fun k => some k = (Value.slice Ao rows.length co).ownBlock)); replace HR := ak (Kd.R_below HR.out hb); replace HB := ak (below_step HB.out hb); clear hb)
    go_ret
    exact ⟨_, rfl, HR.out, rfl, HB.out, HK.out⟩
  · rw [e2] at hIF
    have h0 : 0 < rows.length := by rw [e1, List.length_append, List.length_cons]; omega
    obtain ⟨g, cap, eo, gb_, gl_, cl, HG⟩ := Kd.R_form hR h0
    subst eo
    obtain ⟨n, hn⟩ : ∃ n, n = rows.length := ⟨_, rfl⟩
    rw [← hn] at hR hIF hp ⊢
    have hso : ∀ k, (some k = (Value.slice (some ⟨g, 0, none⟩) n cap).ownBlock) = (k = g) := fun k => by simp [Value.ownBlock]
    simp only [hso] at hp ⊢
    have OKG := ak (show ok g from hR.1 g (by simp [Value.ownBlock]))
    have HI := ak hIF
    have HP := ak hp
    have HO := ak (show (Kd.raw 2).R 37 w w0.heap.size (fun k => k = g) (.slice (some ⟨g, 0, none⟩) n cap) rows from by obtain ⟨_, inner, ho, hr⟩ := hR; exact ⟨fun k hk => by simpa [Value.ownBlock] using hk.symm, inner, ho, hr⟩)
    have GB := ak gb_
    have HN := ak (show rows.length = n ∧ n ≤ 4611686018427387000 from ⟨hn.symm, by omega⟩)
    have HGD := ak hgd
    have E1 := ak (show rows = pre ++ c :: suf ∧ (∀ d ∈ pre, p d = false) ∧ p c = true from ⟨e1, hpre, hc⟩)
    obtain ⟨x5, hx5⟩ : ∃ y, y = (pre.length : Int) := ⟨_, rfl⟩
    obtain ⟨x6, hx6⟩ : ∃ y, y = x5 + 1 := ⟨_, rfl⟩
    rw [← hx5] at HI
    have hb1 : pre.length + (suf.length + 1) = rows.length := by rw [e1, List.length_append, List.length_cons]
    have w56 : IntKind.i64.wrap (x5 + 1) = x6 := (i64_w _).trans (by rw [hx6]; unfold wrap64; omega)
    have ne1 : decide (x5 = -1) = false := decide_eq_false (by omega)
    have ne2 : (x5 == -1) = false := beq_eq_false_iff_ne.2 (by omega)
    have X56 := ak (show x5 = (pre.length : Int) ∧ x6 = ((pre ++ [c]).length : Int) from ⟨hx5, by rw [List.length_append, List.length_singleton]; omega⟩)
    clear hp hIF hR hgd e1 hpre hc e2 hB h0 gb_ gl_ cl HG hso hx5 hx6 hn hlen hb1
    go_enter Try.func73, Try.ntmps73
    go_wp2_with (go_at_call 131; refine HI.out.mono ?_; rintro e w1 ⟨rfl, hb⟩; have HK := ak (Kept.of_below hb (fun k => k = g)); replace HO := ak (Kd.R_below HO.out hb); replace HB := ak (below_step HB.out hb); clear hb)
    go_loopg [5, 6] suf.length (fun kq v5 v6 w' => ∃ (dn kept mid rest : List (List Value)) (x5 x6 : Int), v5 = .int .i64 x5 ∧ v6 = .int .i64 x6 ∧ Aside0 (rows = dn ++ rest ∧ kept = (dn.filter fun c => !p c) ∧ x5 = (kept.length : Int) ∧ x6 = (dn.length : Int) ∧ dn.length = kept.length + mid.length ∧ 0 < mid.length ∧ rest.length ≤ kq) ∧ Aside0 ((Kd.raw 2).R 37 w' w0.heap.size (fun k => k = g) (.slice (some ⟨g, 0, none⟩) n cap) (kept ++ mid ++ rest)) ∧ Aside0 (Kept w w' (fun k => k = g)) ∧ Aside0 (Below w0.heap.size w0 w'))
    case atStart =>
      obtain ⟨h1, h2, h3⟩ := E1.out
      have hf : ((pre ++ [c]).filter fun c => !p c) = pre := by
        rw [List.filter_append, List.filter_eq_self.2 (fun d hd => by simp [h2 d hd])]
        simp [h3]
      exact ⟨pre ++ [c], pre, [c], suf, x5, x6, rfl, rfl, ⟨⟨by rw [h1]; simp, hf.symm, X56.out.1, X56.out.2, by simp, by simp, Nat.le_refl _⟩⟩, ⟨by have := HO.out; rw [h1] at this; rw [List.append_assoc]; exact this⟩, ⟨HK.out⟩, ⟨HB.out⟩⟩
    case round =>
      clear E1 X56 HO HK HB
      obtain ⟨dn, kept, mid, rest, x5, x6, rfl, rfl, HA, HO, HK, HB⟩ := hrel
      obtain ⟨h1, h2, h3, h4, h5, h6, h7⟩ := HA.out
      have hN := HN.out.1
      have hN2 := HN.out.2
      have h8 : rows.length = dn.length + rest.length := by rw [h1, List.length_append]
      have P5 := ak (show 0 ≤ x5 by omega)
      have Q5 := ak (show x5 < (n : Int) by omega)
      have p5 := eq_true P5.out
      have q5 := eq_true Q5.out
      cases rest with
      | nil =>
        have c1 : decide (x6 < (n : Int)) = false := decide_eq_false (by rw [List.length_nil] at h8; omega)
        rw [List.append_nil] at h1 HO
        rw [List.length_nil] at h8
        obtain ⟨cur, hbk, hc1, hc2, hc3, hc4⟩ := raw_blk HO.out
        have hx0 : x5.toNat < n := by omega
        have hcl := fun ty => run_clear_n (P := Try.prog) (n := n - x5.toNat) wr 31 37 ty (.agg #[Value.int .i64 0, Value.int .i64 0]) #[Value.int .i64 0, Value.int .i64 0] Try.underlying31 Try.zeroValue37 rfl (zeroCells_one _ _ (by decide) (by decide)) g (x5.toNat * 2) (cap - x5.toNat) (by omega) cur hbk (by rw [hc3]; show x5.toNat * 2 + (n - x5.toNat) * 2 ≤ cap * 2; omega)
        obtain ⟨cur', hb', hs', ht'⟩ := setCells_blk g 37 (Builtin.zeroCells #[Value.int .i64 0, Value.int .i64 0] (n - x5.toNat)).toList (x5.toNat * 2) wr cur hbk
        have HX := ak (raw_cut (m := x5.toNat) (ok' := ok) HO.out (by omega) hbk hb' hs' (fun k hk => ht' k hk) OKG.out)
        have HF := ak (show kept = (rows.filter fun c => !p c) from by rw [h2, h1])
        have hKB : Kept wr (wr.setCells g (x5.toNat * 2) (Builtin.zeroCells #[Value.int .i64 0, Value.int .i64 0] (n - x5.toNat)).toList) (fun k => k = g) := ⟨by rw [setCells_size]; exact Nat.le_refl _, fun i _ hi => setCells_far g _ _ _ i hi⟩
        have HKB := ak hKB
        have cap5 : x5.toNat ≤ cap := by omega
        have cap6 : ¬ (cap = x5.toNat) := by omega
        have cap7 : ¬ (x5.toNat = cap) := by omega
        have le5 : decide (x5 ≤ (n : Int)) = true := decide_eq_true (by omega)
        clear hb' hs' ht' h1 h2 h3 h4 h5 h6 h7 h8 hN hN2 hbk hc1 hc2 hc3 hc4 hKB HA
        go_wp2
        go_ret
        exact ⟨_, rfl, by rw [← HF.out]; exact HX.out, rfl, setCells_below GB.out _ _ _ HB.out, Kept.then_ HK.out HKB.out (fun k hk => .inl hk)⟩
      | cons c0 rest =>
        rw [List.length_cons] at h8
        have pz : 0 ≤ x6 := by omega
        have qz : x6 < (n : Int) := by omega
        have c1 : decide (x6 < (n : Int)) = true := decide_eq_true qz
        obtain ⟨a, b, rfl⟩ := HGD.out c0 (by rw [h1]; exact List.mem_append_right _ List.mem_cons_self)
        have HM := ak (show [Value.int .i64 a, Value.int .i64 b] ∈ rows from by rw [h1]; exact List.mem_append_right _ List.mem_cons_self)
        have GL := ak (Kd.R_lt HO.out g (by simp [Value.ownBlock]))
        obtain ⟨cc, hcl, hM, hcc, hfr⟩ := Kd.R_elem HO.out [] x6 pz qz
        have hget : (kept ++ mid ++ ([Value.int .i64 a, Value.int .i64 b] :: rest)).getD x6.toNat [] = [Value.int .i64 a, Value.int .i64 b] := by
          rw [show x6.toNat = (kept ++ mid).length from by rw [List.length_append]; omega]
          exact getD_mid _ _ _ _
        rw [hget] at hM
        obtain ⟨rfl, _, _⟩ := hM
        have hx6_0 : wr.cell? ⟨g, x6.toNat * 2, none⟩ = some (Value.int .i64 a) := hcc 0 _ rfl
        have hx6_1 : wr.cell? ⟨g, x6.toNat * 2 + 1, none⟩ = some (Value.int .i64 b) := hcc 1 _ rfl
        obtain ⟨x7, hx7⟩ : ∃ y, y = x5 + 1 := ⟨_, rfl⟩
        have w57 : IntKind.i64.wrap (x5 + 1) = x7 := (i64_w _).trans (by rw [hx7]; unfold wrap64; omega)
        obtain ⟨x8, hx8⟩ : ∃ y, y = x6 + 1 := ⟨_, rfl⟩
        have w68 : IntKind.i64.wrap (x6 + 1) = x8 := (i64_w _).trans (by rw [hx8]; unfold wrap64; omega)
        have RA := ak (show rows = (dn ++ [[Value.int .i64 a, Value.int .i64 b]]) ++ rest ∧ x8 = ((dn ++ [[Value.int .i64 a, Value.int .i64 b]]).length : Int) from ⟨by rw [h1]; simp, by rw [List.length_append, List.length_singleton]; omega⟩)
        have H7 := ak h7
        cases hq : p [Value.int .i64 a, Value.int .i64 b] with
        | true =>
          have RB := ak (show kept = ((dn ++ [[Value.int .i64 a, Value.int .i64 b]]).filter fun c => !p c) ∧ x5 = (kept.length : Int) ∧ (dn ++ [[Value.int .i64 a, Value.int .i64 b]]).length = kept.length + (mid ++ [[Value.int .i64 a, Value.int .i64 b]]).length ∧ 0 < (mid ++ [[Value.int .i64 a, Value.int .i64 b]]).length from ⟨by rw [List.filter_append, ← h2]; simp [hq], h3, by rw [List.length_append, List.length_append, List.length_singleton]; omega, by rw [List.length_append, List.length_singleton]; omega⟩)
          have HC := ak (show ∀ W, Kept w W (fun k => k = g) → Calls Try.prog 74 (#[.agg ([Value.int .i64 a, Value.int .i64 b] : List Value).toArray] ++ cap_) W fun e W' => e = .returned (.bool true) ∧ Below W.heap.size W W' from fun W hk => by have := HP.out W _ hk HM.out; rw [hq] at this; exact this)
          clear h1 h2 h3 h4 h5 h6 h7 h8 hN hN2 hx7 hx8 hq hget hcl hcc hfr HA
          go_wp2_with (first | ((with_reducible refine gate_dst (N := 7) rfl ?_); refine bx 7 #[Value.int .i64 0, Value.int .i64 0] 37 ?_; intro gb hg w1 hbox hb; have BK := ak hbox; have GE := ak (show w.heap.size ≤ gb from by rw [hg]; exact HK.out.1); have G0 := ak (show w0.heap.size ≤ gb from by rw [hg]; exact below_size HB.out); have NG := ak (show g ≠ gb from by rw [hg]; exact Nat.ne_of_lt GL.out); replace HO := ak (Kd.R_below HO.out hb); replace HK := ak (Kept.below HK.out hb); replace HB := ak (below_step HB.out hb); clear hb hbox hg; obtain ⟨hcz_0, hcz_1, hfz_0, hfz_1⟩ := cz2 BK) | (go_at_call 74; (refine (HC.out _ ?sk).mono ?_); (case sk => repeat (first | (with_reducible first | exact HK.out | apply Kept.alloc | apply Kept.drewN | apply Kept.drew | refine Kept.setCell ?_ (.inr GE.out) _) | exact HK.out)); rintro e w3 ⟨rfl, hb⟩; replace BK := ak (blk_below (blk_put (cs := #[Value.int .i64 a, Value.int .i64 0]) (blk_put (cs := #[Value.int .i64 0, Value.int .i64 0]) BK.out 0 _ rfl) 1 _ rfl) hb); replace HO := ak (Kd.R_below (Kd.R_far (Kd.R_far HO.out (p := ⟨gb, 0, none⟩) (fun k hk => by rw [hk]; exact NG.out) (Value.int .i64 a)) (p := ⟨gb, 1, none⟩) (fun k hk => by rw [hk]; exact NG.out) (Value.int .i64 b)) hb); replace HK := ak (Kept.below (S := fun k => k = g) (by repeat (first | (with_reducible first | exact HK.out | apply Kept.alloc | apply Kept.drewN | apply Kept.drew | refine Kept.setCell ?_ (.inr GE.out) _) | exact HK.out)) hb); replace HB := ak (below_step (bl1 G0) hb); clear hb; obtain ⟨hcz_0, hcz_1, hfz_0, hfz_1⟩ := cz2 BK; obtain ⟨cc, hcl, hM, hcc, hfr⟩ := Kd.R_elem HO.out [] x5 P5.out Q5.out; obtain ⟨o0, o1, rfl⟩ := cells2 hcl; have hx5_0 : w3.cell? ⟨g, x5.toNat * 2, none⟩ = some o0 := hcc 0 _ rfl; have hx5_1 : w3.cell? ⟨g, x5.toNat * 2 + 1, none⟩ = some o1 := hcc 1 _ rfl; have hf5_0 : w3.frozen? ⟨g, x5.toNat * 2, none⟩ = false := hfr 0; have hf5_1 : w3.frozen? ⟨g, x5.toNat * 2 + 1, none⟩ = false := hfr 1; have HS := Kd.R_seg HO.out x5 P5.out Q5.out (seg := [Value.int .i64 a, Value.int .i64 b]) (j := 0) hcl hcc (show 0 + 2 ≤ 2 from by decide) (x' := [Value.int .i64 a, Value.int .i64 b]) (okp := fun _ => False) ⟨rfl, rfl, by simp [Value.oneCell']⟩ (fun k hk => hk.elim); clear hcl hM hcc hfr))
          go_roundg rest.length
          case measure => have := H7.out; simp only [List.length_cons] at this; omega
          case rel => exact ⟨dn ++ [[Value.int .i64 a, Value.int .i64 b]], kept, mid ++ [[Value.int .i64 a, Value.int .i64 b]], rest, x5, x8, rfl, rfl, ⟨⟨RA.out.1, RB.out.1, RB.out.2.1, RA.out.2, RB.out.2.2.1, RB.out.2.2.2, Nat.le_refl _⟩⟩, ⟨by rw [show kept ++ (mid ++ [[Value.int .i64 a, Value.int .i64 b]]) ++ rest = kept ++ mid ++ [Value.int .i64 a, Value.int .i64 b] :: rest from by simp]; exact HO.out⟩, ⟨HK.out⟩, ⟨HB.out⟩⟩
        | false =>
          obtain ⟨m0, mid1, rfl⟩ : ∃ m0 mid1, mid = m0 :: mid1 := by
            cases mid with
            | nil => simp at h6
            | cons m0 mid1 => exact ⟨m0, mid1, rfl⟩
          have RB := ak (show kept ++ [[Value.int .i64 a, Value.int .i64 b]] = ((dn ++ [[Value.int .i64 a, Value.int .i64 b]]).filter fun c => !p c) ∧ x7 = ((kept ++ [[Value.int .i64 a, Value.int .i64 b]]).length : Int) ∧ (dn ++ [[Value.int .i64 a, Value.int .i64 b]]).length = (kept ++ [[Value.int .i64 a, Value.int .i64 b]]).length + (mid1 ++ [[Value.int .i64 a, Value.int .i64 b]]).length ∧ 0 < (mid1 ++ [[Value.int .i64 a, Value.int .i64 b]]).length from ⟨by rw [List.filter_append, ← h2]; simp [hq], by rw [List.length_append, List.length_singleton]; omega, by have l5 : dn.length = kept.length + (mid1.length + 1) := h5; rw [List.length_append, List.length_append, List.length_append, List.length_singleton]; omega, by rw [List.length_append, List.length_singleton]; omega⟩)
          have RC := ak (show ((kept ++ (m0 :: mid1) ++ ([Value.int .i64 a, Value.int .i64 b] :: rest)).set x5.toNat [Value.int .i64 a, Value.int .i64 b]) = (kept ++ [[Value.int .i64 a, Value.int .i64 b]]) ++ (mid1 ++ [[Value.int .i64 a, Value.int .i64 b]]) ++ rest from by
            rw [show x5.toNat = kept.length from by omega, List.append_assoc, List.cons_append, set_mid]
            simp)
          have HC := ak (show ∀ W, Kept w W (fun k => k = g) → Calls Try.prog 74 (#[.agg ([Value.int .i64 a, Value.int .i64 b] : List Value).toArray] ++ cap_) W fun e W' => e = .returned (.bool false) ∧ Below W.heap.size W W' from fun W hk => by have := HP.out W _ hk HM.out; rw [hq] at this; exact this)
          clear h1 h2 h3 h4 h5 h6 h7 h8 hN hN2 hx7 hx8 hq hget hcl hcc hfr HA
          go_wp2_with (first | ((with_reducible refine gate_dst (N := 7) rfl ?_); refine bx 7 #[Value.int .i64 0, Value.int .i64 0] 37 ?_; intro gb hg w1 hbox hb; have BK := ak hbox; have GE := ak (show w.heap.size ≤ gb from by rw [hg]; exact HK.out.1); have G0 := ak (show w0.heap.size ≤ gb from by rw [hg]; exact below_size HB.out); have NG := ak (show g ≠ gb from by rw [hg]; exact Nat.ne_of_lt GL.out); replace HO := ak (Kd.R_below HO.out hb); replace HK := ak (Kept.below HK.out hb); replace HB := ak (below_step HB.out hb); clear hb hbox hg; obtain ⟨hcz_0, hcz_1, hfz_0, hfz_1⟩ := cz2 BK) | (go_at_call 74; (refine (HC.out _ ?sk).mono ?_); (case sk => repeat (first | (with_reducible first | exact HK.out | apply Kept.alloc | apply Kept.drewN | apply Kept.drew | refine Kept.setCell ?_ (.inr GE.out) _) | exact HK.out)); rintro e w3 ⟨rfl, hb⟩; replace BK := ak (blk_below (blk_put (cs := #[Value.int .i64 a, Value.int .i64 0]) (blk_put (cs := #[Value.int .i64 0, Value.int .i64 0]) BK.out 0 _ rfl) 1 _ rfl) hb); replace HO := ak (Kd.R_below (Kd.R_far (Kd.R_far HO.out (p := ⟨gb, 0, none⟩) (fun k hk => by rw [hk]; exact NG.out) (Value.int .i64 a)) (p := ⟨gb, 1, none⟩) (fun k hk => by rw [hk]; exact NG.out) (Value.int .i64 b)) hb); replace HK := ak (Kept.below (S := fun k => k = g) (by repeat (first | (with_reducible first | exact HK.out | apply Kept.alloc | apply Kept.drewN | apply Kept.drew | refine Kept.setCell ?_ (.inr GE.out) _) | exact HK.out)) hb); replace HB := ak (below_step (bl1 G0) hb); clear hb; obtain ⟨hcz_0, hcz_1, hfz_0, hfz_1⟩ := cz2 BK; obtain ⟨cc, hcl, hM, hcc, hfr⟩ := Kd.R_elem HO.out [] x5 P5.out Q5.out; obtain ⟨o0, o1, rfl⟩ := cells2 hcl; have hx5_0 : w3.cell? ⟨g, x5.toNat * 2, none⟩ = some o0 := hcc 0 _ rfl; have hx5_1 : w3.cell? ⟨g, x5.toNat * 2 + 1, none⟩ = some o1 := hcc 1 _ rfl; have hf5_0 : w3.frozen? ⟨g, x5.toNat * 2, none⟩ = false := hfr 0; have hf5_1 : w3.frozen? ⟨g, x5.toNat * 2 + 1, none⟩ = false := hfr 1; have HS := Kd.R_seg HO.out x5 P5.out Q5.out (seg := [Value.int .i64 a, Value.int .i64 b]) (j := 0) hcl hcc (show 0 + 2 ≤ 2 from by decide) (x' := [Value.int .i64 a, Value.int .i64 b]) (okp := fun _ => False) ⟨rfl, rfl, by simp [Value.oneCell']⟩ (fun k hk => hk.elim); clear hcl hM hcc hfr) | ((with_reducible refine gate_store (t := 37) (p := 33) rfl ?_); refine store_event (t := 37) (p := 33) (v := ?vo_d) (w1 := ((w3.setCell ⟨g, x5.toNat * 2, none⟩ (Value.int .i64 a)).setCell ⟨g, x5.toNat * 2 + 1, none⟩ (Value.int .i64 b))) ?hg ?ho ?hn ?hr ?_; (case ho => rfl); (case hg => rfl); (case hn => rfl); (case hr => first | (go_simp; done) | (go_simp; rfl)); intro w4 hw; have hg : w3.grownBy w4 (some g) := (by rw [hw]; exact HS.2); have hp_ : (Kd.raw 2).R 37 w4 w0.heap.size (fun k => k = g) (.slice (some ⟨g, 0, none⟩) n cap) ((kept ++ (m0 :: mid1) ++ ([Value.int .i64 a, Value.int .i64 b] :: rest)).set x5.toNat [Value.int .i64 a, Value.int .i64 b]) := (by rw [hw]; exact HS.1); clear HS; replace HK := ak (Kept.of_grown (S := fun k => k = g) hg HK.out (fun k e_ => .inl (by injection e_ with e_; exact e_.symm))); replace HB := ak (by rw [hw]; exact below_set (below_set (HB.out) GB.out) GB.out : Below w0.heap.size w0 w4); replace HO := ak hp_; clear hg hw hp_))
          go_roundg rest.length
          case measure => have := H7.out; simp only [List.length_cons] at this; omega
          case rel => exact ⟨dn ++ [[Value.int .i64 a, Value.int .i64 b]], kept ++ [[Value.int .i64 a, Value.int .i64 b]], mid1 ++ [[Value.int .i64 a, Value.int .i64 b]], rest, x7, x8, rfl, rfl, ⟨⟨RA.out.1, RB.out.1, RB.out.2.1, RA.out.2, RB.out.2.2.1, RB.out.2.2.2, Nat.le_refl _⟩⟩, ⟨by rw [← RC.out]; exact HO.out⟩, ⟨HK.out⟩, ⟨HB.out⟩⟩

end Go.Proofs.Ytplekidnlofioaa.Q
namespace Go.Proofs.Ytplekidnlofioaa.Q
open Go.RowKit Go.Proofs.YtplekidnlofioaaW.PrintWords Go.Proofs.YtplekidnlofioaaW.PrintLast Go.Proofs.YtplekidnlofioaaW.PrintMore
attribute [local go_sem] max2_int min2_int max_two min_two max_three min_three max_four min_four   -- for this text's walks alone
set_option linter.unusedVariables false
set_option linter.unusedSimpArgs false

/-! ### impl_ownSeries: function 65 -/
def impl_ownSeries.l0 : Nat → List (S81) → List (S81) → Int → Int → Option ((List (S81)))
 | 0, _, _, _, _ => none
 | k + 1, x3, x6, x7, x8 => if x8 < x7 then (if 0 ≤ x8 then (if x8 < (x6.length : Int) then ((slices_Clone_impl_Point_impl_Point.f ((rd_T81 x6 x8).f2)).bind fun t160 => (if x3.length < 2513169434916 then (impl_ownSeries.l0 k (x3 ++ [(⟨(rd_T81 x6 x8).f0, (rd_T81 x6 x8).f1, t160⟩ : S81)]) x6 x7 (wrap64 (x8 + 1))) else (none))) else (none)) else (none)) else (some x3)
def impl_ownSeries.f (k : Nat) (l0 : List (S81)) : Option ((List (S81))) := impl_ownSeries.l0 k ([] : List (S81)) l0 (l0.length : Int) 0
theorem impl_ownSeries.mono_l : ∀ k, (∀ y0 y1 y2 y3, LeO (impl_ownSeries.l0 k y0 y1 y2 y3) (impl_ownSeries.l0 (k + 1) y0 y1 y2 y3))
 | 0 => fun _ _ _ _ r h => by simp [impl_ownSeries.l0] at h
 | k + 1 => by
  have ih0 := impl_ownSeries.mono_l k
  · intro y0 y1 y2 y3
    unfold impl_ownSeries.l0
    repeat' first
    | (with_reducible exact ih0 _ _ _ _)
    | (with_reducible exact LeO.refl _)
    | (with_reducible exact LeO.none _)
    | (with_reducible refine LeO.ite ?_ ?_)
    | (with_reducible refine LeO.bind ?_ (fun _ => ?_))
    | exact ih0 _ _ _ _
    | exact LeO.none _
    | refine LeO.ite ?_ ?_
    | refine LeO.bind ?_ (fun _ => ?_)
theorem impl_ownSeries.mono : ∀ a0 k, LeO (impl_ownSeries.f k a0) (impl_ownSeries.f (k + 1) a0) := by
 intro a0 k
 have ih0 := impl_ownSeries.mono_l k
 unfold impl_ownSeries.f
 repeat' first
  | (with_reducible exact ih0 _ _ _ _)
  | (with_reducible exact LeO.refl _)
  | (with_reducible exact LeO.none _)
  | (with_reducible refine LeO.ite ?_ ?_)
  | (with_reducible refine LeO.bind ?_ (fun _ => ?_))
  | exact ih0 _ _ _ _
  | exact LeO.none _
  | refine LeO.ite ?_ ?_
  | refine LeO.bind ?_ (fun _ => ?_)
def impl_ownSeries.T5 : Bool × List (List Nat × List Nat) := (true, [([], []), ([], []), ([1], [1]), ([], []), ([3], [3]), ([], []), ([5], [5]), ([6], [6]), ([2, 4, 7], [2, 4, 7]), ([8], [8]), ([0, 9, 7], [0, 9]), ([10, 10, 0, 1, 2, 3, 4, 5, 6, 7, 8, 9, 10], [0, 10])])
def impl_ownSeries.B5 : List Nat := [0, 0, 2, 0, 8, 0, 32, 96, 254, 510, 1023, 2047]
theorem impl_ownSeries.tab5 : rtab .any (opsOf Try.f65 5) = impl_ownSeries.T5 := by kernel_rfl
theorem impl_ownSeries.bits5 : waitsOk impl_ownSeries.T5.2 impl_ownSeries.B5 = true := by kernel_rfl
set_option maxHeartbeats 8000000 in
set_option maxRecDepth 100000 in
theorem impl_ownSeries.calls (k : Nat) (A0 : Option Addr) (c0 : Nat) (l0 : List (S81)) (r : List (S81)) (w : World) (hr0 : Kd.C k81 w A0 l0.length l0) (hc0 : l0.length ≤ c0) (h : impl_ownSeries.f k l0 = some r) :
 Calls Try.prog 65 #[.slice A0 l0.length c0] w fun e w' => ∃ v0_ : Value, e = .returned (v0_) ∧ Kd.S k81 81 w' w.heap.size (fun _ => True) v0_ r ∧ Below w.heap.size w w' := by
 have hu81 := Try.underlying81
 have HR0 := Aside0.mk hr0
 have HC0 := Aside0.mk hc0
 clear hr0 hc0
 have HB := Aside0.mk (Below.refl w.heap.size w)
 have H : (impl_ownSeries.l0 k ([] : List (S81)) l0 (l0.length : Int) 0) = some r := h
 clear h
 have H' := Aside0.mk H
 clear H
 go_enter Try.func65, Try.ntmps65
 go_wp2
 go_loopg [3, 8] k (fun kq v3 v8 w' => ∃ (x3_1 : List (S81)) (x8_1 : Int), v8 = .int .i64 x8_1 ∧ Aside0 (impl_ownSeries.l0 kq x3_1 l0 (l0.length : Int) x8_1 = some r) ∧ Aside0 (kq ≤ k) ∧ Aside0 (Kd.S k81 81 w' w.heap.size (fun _ => True) v3 x3_1) ∧ Aside0 (Below w.heap.size w w'))
 case atStart => exact ⟨(([] : List (S81))), (0), es, H', ⟨Nat.le_refl _⟩, ⟨by first | exact Kd.S_nil _ _ _ _ _ | exact Kd.N_nil _ _ _ _ _ | exact Kd.V_nil _ _ _ _ _ | exact Kd.Q_nil _ _ _ _ _ | exact Kd.R_nil _ _ _ _ _⟩, ⟨bl⟩⟩
 case round =>
  clear H'
  obtain ⟨x3_1, x8_1, rfl, HA, HK1, HO_3, HB⟩ := hrel
  cases gk with
  | zero => exact absurd HA.out (by simp [impl_ownSeries.l0])
  | succ k1 =>
   have H := HA.out
   clear HA
   simp only [impl_ownSeries.l0] at H
   by_cases c2 : x8_1 < (l0.length : Int)
   · rw [if_pos c2] at H
     have c2b0 : decide (x8_1 < (l0.length : Int)) = true := decide_eq_true c2
     clear c2
     by_cases c3 : 0 ≤ x8_1
     · rw [if_pos c3] at H
       have c3b0 : decide (0 ≤ x8_1) = true := decide_eq_true c3
       clear c3
       by_cases c4 : x8_1 < (l0.length : Int)
       · rw [if_pos c4] at H
         have c4b0 : decide (x8_1 < (l0.length : Int)) = true := decide_eq_true c4
         clear c4
         obtain ⟨t160, A50, H⟩ := bo H
         have A5 := Aside0.mk A50
         clear A50
         by_cases c6 : x3_1.length < 2513169434916
         · rw [if_pos c6] at H
           have LMc6 := Aside0.mk c6
           clear c6
           obtain ⟨y163, hy163⟩ : ∃ y_ : List (S81), y_ = (x3_1 ++ [(⟨(rd_T81 l0 x8_1).f0, (rd_T81 l0 x8_1).f1, t160⟩ : S81)]) := ⟨_, rfl⟩
           replace H : (impl_ownSeries.l0 k1 y163 l0 (l0.length : Int) (wrap64 (x8_1 + 1))) = some r := by first | (rw [hy163]; with_reducible exact H) | (have H2_ := (Option.bind_some _ _).symm.trans H; rw [hy163]; with_reducible exact H2_) | (have H2_ := (Option.bind_some _ _).symm.trans H; with_reducible exact H2_) | with_reducible exact H | (rw [hy163]; exact H) | exact H
           have Ny163 := Aside0.mk hy163
           clear hy163
           have H' := Aside0.mk H
           clear H
           have p158 : 0 ≤ (x8_1 : Int) := of_decide_eq_true am
           have q158 : x8_1 < (l0.length : Int) := of_decide_eq_true am
           obtain ⟨ad158, A158_2, c158_2, e158, hx158_0, hx158_1, hx158_2, hl158_2, hi158_2⟩ := at_T81 HR0.out x8_1 p158 q158
           cases e158
           replace hx158_0 := cw hx158_0
           replace hx158_1 := cw hx158_1
           replace hx158_2 := cw hx158_2
           have HR158_2 := Aside0.mk hi158_2
           have HC158_2 := Aside0.mk hl158_2
           clear hi158_2 hl158_2
           replace p158 := eq_true p158
           replace q158 := eq_true q158
           try go_wp2_with (first | ((with_reducible refine gate_dst (N := 5) rfl ?_); refine bx 5 #[.string (⟨#[]⟩ : ByteArray), .string (⟨#[]⟩ : ByteArray), .slice none 0 0] 81 ?_; intro gb159 hg w7 hbox hb; replace HO_3 := ak (Kd.S_below (Kd.S_elderB (ks HO_3) gb159 (Nat.le_of_eq hg.symm)) hb); have BK159 := ak hbox; have GW159 := gs hg bl; have GE159 := gs hg bl; replace HB := ak (below_step bl hb); clear hb hbox hg; obtain ⟨hcz8_0, hcz8_1, hcz8_2, hfz8_0, hfz8_1, hfz8_2⟩ := cz3 BK159))
           have n0_ : Aside0 (Kd.S k81 81 (((w7.setCell ⟨gb159, 0, none⟩ (.string ((rd_T81 l0 x8_1).f0))).setCell ⟨gb159, 1, none⟩ (.string ((rd_T81 l0 x8_1).f1))).setCell ⟨gb159, 2, none⟩ (.slice A158_2 ((rd_T81 l0 x8_1).f2).length c158_2)) w.heap.size (fun k_ => k_ ≠ gb159) u3 x3_1) := ⟨by (with_reducible repeat (first | apply Kd.S_alloc | apply Kd.S_drewN | apply Kd.S_drew)); exact Kd.S_mono (Kd.S_far (p := ⟨gb159, 2, none⟩) (Kd.S_far (p := ⟨gb159, 1, none⟩) (Kd.S_far (p := ⟨gb159, 0, none⟩) (Kd.S_mono HO_3.out (fun k_ hk => (⟨hk, hk.2⟩ : _ ∧ k_ ≠ gb159))) (fun _ hk => hk.2) (.string ((rd_T81 l0 x8_1).f0))) (fun _ hk => hk.2) (.string ((rd_T81 l0 x8_1).f1))) (fun _ hk => hk.2) (.slice A158_2 ((rd_T81 l0 x8_1).f2).length c158_2)) (fun _ hk => hk.1.2)⟩
           have n1_ : Aside0 ((((w7.setCell ⟨gb159, 0, none⟩ (.string ((rd_T81 l0 x8_1).f0))).setCell ⟨gb159, 1, none⟩ (.string ((rd_T81 l0 x8_1).f1))).setCell ⟨gb159, 2, none⟩ (.slice A158_2 ((rd_T81 l0 x8_1).f2).length c158_2)).heap[gb159]? = some (.cells #[.string ((rd_T81 l0 x8_1).f0), .string ((rd_T81 l0 x8_1).f1), .slice A158_2 ((rd_T81 l0 x8_1).f2).length c158_2] 81 (0, 0))) := ⟨by (with_reducible repeat (first | refine blk_drewN ?_ _ | refine blk_drew ?_ | refine blk_alloc ?_ _)); refine blk_put (cs := #[.string ((rd_T81 l0 x8_1).f0), .string ((rd_T81 l0 x8_1).f1), .slice none 0 0]) ?_ 2 _ rfl; (with_reducible repeat (first | refine blk_drewN ?_ _ | refine blk_drew ?_ | refine blk_alloc ?_ _)); refine blk_put (cs := #[.string ((rd_T81 l0 x8_1).f0), .string (⟨#[]⟩ : ByteArray), .slice none 0 0]) ?_ 1 _ rfl; (with_reducible repeat (first | refine blk_drewN ?_ _ | refine blk_drew ?_ | refine blk_alloc ?_ _)); refine blk_put (cs := #[.string (⟨#[]⟩ : ByteArray), .string (⟨#[]⟩ : ByteArray), .slice none 0 0]) ?_ 0 _ rfl; (with_reducible repeat (first | refine blk_drewN ?_ _ | refine blk_drew ?_ | refine blk_alloc ?_ _)); exact BK159.out⟩
           have n2_ : Aside0 (Below w.heap.size w (((w7.setCell ⟨gb159, 0, none⟩ (.string ((rd_T81 l0 x8_1).f0))).setCell ⟨gb159, 1, none⟩ (.string ((rd_T81 l0 x8_1).f1))).setCell ⟨gb159, 2, none⟩ (.slice A158_2 ((rd_T81 l0 x8_1).f2).length c158_2))) := ⟨bl1 GE159⟩
           (try clear HO_3)
           (try clear BK159)
           (try clear HB)
           generalize (((w7.setCell ⟨gb159, 0, none⟩ (.string ((rd_T81 l0 x8_1).f0))).setCell ⟨gb159, 1, none⟩ (.string ((rd_T81 l0 x8_1).f1))).setCell ⟨gb159, 2, none⟩ (.slice A158_2 ((rd_T81 l0 x8_1).f2).length c158_2)) = w9 at n0_ n1_ n2_ ⊢
           have HO_3 := n0_
           have BK159 := n1_
           have HB := n2_
           clear n0_ n1_ n2_
           replace HO_3 := ak (Kd.S_drew HO_3.out)
           replace BK159 := ak (blk_drew BK159.out)
           replace HB := ak (below_drew1 HB.out)
           refine start_ (n := 12) (S := fun w' => w'.cell? ⟨gb159, 0, none⟩ = some (.string ((rd_T81 l0 x8_1).f0)) ∧ w'.cell? ⟨gb159, 1, none⟩ = some (.string ((rd_T81 l0 x8_1).f1)) ∧ w'.cell? ⟨gb159, 2, none⟩ = some (.slice A158_2 ((rd_T81 l0 x8_1).f2).length c158_2)) (ds := []) (bitsA 12 0) (by kernel_rfl) rfl rfl ⟨bc BK159 0, bc BK159 1, bc BK159 2⟩ (fun hHeld => ?_); refine with_tabW impl_ownSeries.tab5 impl_ownSeries.bits5 (fun HT_ HW_ => ?_)
           generalize w9.drew = w10 at HO_3 BK159 HB hHeld ⊢
           refine pu 0 (some 12) (bitsA 12 1) ?_
           refine pu 1 (some 13) (bitsA 12 3) ?_
           refine tk 2 (some 14) (bitsA 12 7) hHeld ?_ (hy := Or.inl ⟨by rfl, by rintro w' ⟨s0, s1, s2⟩; go_simp; with_reducible rfl⟩)
           refine pu 3 (some 15) (bitsA 12 15) ?_
           refine tk 4 (some 16) (bitsA 12 31) hHeld ?_ (hy := Or.inl ⟨by rfl, by rintro w' ⟨s0, s1, s2⟩; go_simp; with_reducible rfl⟩)
           refine pu 5 (some 17) (bitsA 12 63) ?_
           refine tk 6 (some 18) (bitsA 12 127) hHeld ?_ (hy := Or.inl ⟨by rfl, by rintro w' ⟨s0, s1, s2⟩; go_simp; with_reducible rfl⟩)
           refine one_ (i := 7) (N := some 19) (bitsA 12 255) rfl rfl (one_of HT_.out (by kernel_rfl)) (by decide) (fun K hK => ?_)
           refine goes_ Try.func66 (by kernel_rfl) rfl #[.slice A158_2 ((rd_T81 l0 x8_1).f2).length c158_2] (by rfl) rfl rfl mt ?_
           with_reducible refine (slices_Clone_impl_Point_impl_Point.calls _ _ ((rd_T81 l0 x8_1).f2) t160 _ ?side1 ?side2 A5.out).mono ?_
           (case side1 => exact cb HR158_2)
           (case side2 => exact HC158_2.out)
           rintro e w11 ⟨v161, rfl, ho0, hb⟩
           refine ⟨_, rfl, ?_⟩
           replace HO_3 := ak (Kd.S_elder' (ks HO_3) (Kd.R_base ho0) hb)
           have HO162 := ak (Kd.R_lower ho0 (below_size (bl1 GE159)))
           replace BK159 := bb BK159 hb
           replace HB := ak (below_step (bl1 GE159) hb)
           (try clear hb)
           (try clear hb2)
           (try clear hk)
           (try clear hi)
           (try clear ho0)
           obtain ⟨Ao12, co12, eo12⟩ := Kd.R_slice HO162.out
           (first | subst eo12 | (injection eo12 with f1_ f2_ f3_; have f4_ := f1_.symm; have f5_ := f3_.symm; clear f1_ f2_ f3_; subst f4_; subst f5_))
           refine hK.out _ _ ⟨bc BK159 0, bc BK159 1, bc BK159 2⟩ (fun hHeld => ?_)
           clear hK K
           refine nm ?_
           refine pu 8 (some 20) (bitsA 12 511) ?_
           refine one_ (i := 9) (N := some 21) (bitsA 12 1023) rfl rfl (one_of HT_.out (by kernel_rfl)) (by decide) (fun K hK => ?_)
           refine value_ (w1 := ?_) (v := ?_) (by rfl) rfl ?_ ?_
           rotate_left 2
           · go_simp
             constructor
             · rfl
             · rfl
           refine hK.out _ _ ⟨(blk_cell (blk_alloc BK159.out _) 0).trans rfl, (blk_cell (blk_alloc BK159.out _) 1).trans rfl, (blk_cell (blk_alloc BK159.out _) 2).trans rfl⟩ (fun hHeld => ?_)
           clear hK K
           refine nm ?_
           refine one_ (i := 10) (N := some 22) (bitsA 12 2047) rfl rfl (one_of HT_.out (by kernel_rfl)) (by decide) (fun K hK => ?_)
           refine Kd.S_append_step k81 (w0 := w) w.heap.size (by rfl) (.tmp 12) (.tmp 21) 24 81 (.agg #[(.string ⟨#[]⟩), (.string ⟨#[]⟩), (.slice none 0 0)]) 56 rfl Try.underlying24 info81 rfl (by decide) (by omega) u3 x3_1 (⟨(rd_T81 l0 x8_1).f0, (rd_T81 l0 x8_1).f1, t160⟩ : S81) [.string ((rd_T81 l0 x8_1).f0), .string ((rd_T81 l0 x8_1).f1), .slice Ao12 t160.length co12] (fun k_ => k_ ≠ gb159) (fun k_ => some k_ = (.slice Ao12 t160.length co12 : Value).ownBlock) rfl rfl ?aP (fun k_ hk_ => ((Kd.R_mono (ok' := fun k_ => ((fun k_ => k_ ≠ gb159)) k_ ∧ some k_ ≠ (u3 : Value).ownBlock) (Kd.R_types (Kd.R_apart' (HO162.out) (Kd.S_typed HO_3.out) (by decide)) BK159.out (by decide)) (fun k_ hk => ⟨hk.2, hk.1.2⟩))).1 k_ hk_.symm) ?aF ?aO ?aB ?aS ?aL ?_
           (case aP => exact k81_mkM _ _ _ (⟨(rd_T81 l0 x8_1).f0, (rd_T81 l0 x8_1).f1, t160⟩ : S81) (Kd.R_mono (Kd.R_tight rfl (Kd.R_mono (ok' := fun k_ => ((fun k_ => k_ ≠ gb159)) k_ ∧ some k_ ≠ (u3 : Value).ownBlock) (Kd.R_types (Kd.R_apart' (HO162.out) (Kd.S_typed HO_3.out) (by decide)) BK159.out (by decide)) (fun k_ hk => ⟨hk.2, hk.1.2⟩))) (fun _ h_ => h_)))
           (case aB => exact (bl1 GE159))
           (case aF => exact (fun k_ hk => Kd.freshB (g := gb159) (o := .cells #[.string ((rd_T81 l0 x8_1).f0), .string ((rd_T81 l0 x8_1).f1), .slice A158_2 ((rd_T81 l0 x8_1).f2).length c158_2] 81 (0, 0)) (bk BK159) k_ hk))
           (case aO => exact (by (with_reducible repeat (first | apply Kd.S_alloc | apply Kd.S_drewN | apply Kd.S_drew)); exact Kd.S_mono HO_3.out (fun k_ hk => ⟨hk.1, fun e_ => hk.2 e_⟩)))
           (case aS => exact (below_size (bl1 GE159)))
           (case aL => have := LMc6.out; omega)
           intro v164 w13 ho hb hg hat
           rw [← Ny163.out] at ho
           replace BK159 := ak (blk_grown (g := gb159) (o := .cells #[.string ((rd_T81 l0 x8_1).f0), .string ((rd_T81 l0 x8_1).f1), .slice A158_2 ((rd_T81 l0 x8_1).f2).length c158_2] 81 (0, 0)) (bk BK159) hg (Kd.S_away HO_3.out (fun _ hk => hk.1)))
           replace HB := ak hb
           have HO165 := ak ho
           clear HO_3 HO162
           clear ho hb hg hat
           refine hK.out _ _ ⟨bc BK159 0, bc BK159 1, bc BK159 2⟩ (fun hHeld => ?_)
           clear hK K
           refine nm ?_
           refine pu 11 (some 3) (bitsA 12 4095) ?_
           refine done_ (done_of HT_.out (by kernel_rfl)) ?_
           try go_wp2
           go_roundg k1
           case measure => have := HK1.out; omega
           case rel => exact ⟨(y163), (wrap64 (x8_1 + 1)), es, H', ⟨kp⟩, ⟨by (with_reducible repeat (first | apply Kd.S_alloc | apply Kd.S_drewN | apply Kd.S_drew)); exact Kd.S_mono HO165.out (fun _ hk => trivial)⟩, ⟨bl1 GE159⟩⟩
         · rw [if_neg c6] at H
           exact absurd H (by simp)
       · rw [if_neg c4] at H
         exact absurd H (by simp)
     · rw [if_neg c3] at H
       exact absurd H (by simp)
   · rw [if_neg c2] at H
     have c2b0 : decide (x8_1 < (l0.length : Int)) = false := decide_eq_false c2
     clear c2
     obtain rfl := Option.some.inj H
     go_wp2
     go_ret
     exact ⟨_, ew, ks HO_3, bl⟩

end Go.Proofs.Ytplekidnlofioaa.Q
namespace Go.Proofs.Ytplekidnlofioaa.Q
open Go.RowKit Go.Proofs.YtplekidnlofioaaW.PrintWords Go.Proofs.YtplekidnlofioaaW.PrintLast Go.Proofs.YtplekidnlofioaaW.PrintMore
attribute [local go_sem] max2_int min2_int max_two min_two max_three min_three max_four min_four
set_option linter.unusedVariables false
set_option linter.unusedSimpArgs false
def encP (p : S37) : List Value := [Value.int .i64 p.f0, Value.int .i64 p.f1]
def cutS (t : Int) (s : S81) : S81 := ⟨s.f0, s.f1, s.f2.filter fun p => decide (t ≤ p.f0)⟩
def forg (t : Int) : List S81 → List S81
  | [] => []
  | s :: r => if 0 < (cutS t s).f2.length then cutS t s :: forg t r else forg t r
theorem forg_len (t : Int) : ∀ r, (forg t r).length ≤ r.length
  | [] => Nat.le_refl _
  | s :: r => by
    have := forg_len t r
    simp only [forg]
    split <;> simp only [List.length_cons] <;> omega
theorem forg_app (t : Int) : ∀ a b, forg t (a ++ b) = forg t a ++ forg t b
  | [], b => rfl
  | s :: r, b => by
    simp only [List.cons_append, forg, forg_app t r b]
    split <;> rfl
/-- A row of points, told by cells, and back. -/
theorem pts_raw {e base : Nat} {ok : Nat → Prop} {w : World} {v : Value} {xs : List S37} (h : Kd.R k37 e w base ok v xs) : (Kd.raw 2).R e w base ok v (xs.map encP) := by
  obtain ⟨h0, inner, ho, hr⟩ := h
  refine ⟨h0, inner, by rw [List.length_map]; exact ho, by rw [List.length_map]; exact hr.1, fun j p hj => ?_⟩
  rw [List.getElem?_map] at hj
  obtain ⟨x, hx, rfl⟩ := Option.map_eq_some_iff.1 hj
  have hc := k37_openM (hr.2 j x hx)
  have hc2 : (List.drop (j * 2) inner).take 2 = encP x := hc
  exact ⟨hc2, by show ((List.drop (j * 2) inner).take 2).length = 2; rw [hc2]; rfl, fun u hu => by
    have hu2 : u ∈ (List.drop (j * 2) inner).take 2 := hu
    rw [hc2] at hu2
    simp only [encP, List.mem_cons, List.not_mem_nil, or_false] at hu2
    rcases hu2 with rfl | rfl <;> rfl⟩
theorem pts_back {e base : Nat} {ok : Nat → Prop} {w : World} {v : Value} {xs : List S37} (h : (Kd.raw 2).R e w base ok v (xs.map encP)) : Kd.R k37 e w base ok v xs := by
  obtain ⟨h0, inner, ho, hr⟩ := h
  rw [List.length_map] at ho
  refine ⟨h0, inner, ho, by have := hr.1; rw [List.length_map] at this; exact this, fun j x hj => ?_⟩
  have hc := (hr.2 j (encP x) (by rw [List.getElem?_map, hj]; rfl)).1
  have hc2 : (List.drop (j * 2) inner).take 2 = encP x := hc
  show k37.M w base _ x ((List.drop (j * 2) inner).take 2)
  rw [hc2]
  exact k37_mkM _ _ _ x
/-- The closure's test, by cells. -/
def pF (t : Int) : List Value → Bool
  | Value.int _ a :: _ => decide (a < t)
  | _ => false
theorem filt_pF (t : Int) (xs : List S37) : ((xs.map encP).filter fun c => !pF t c) = (xs.filter fun p => decide (t ≤ p.f0)).map encP := by
  induction xs with
  | nil => rfl
  | cons x r ih =>
    have e : (!pF t (encP x)) = decide (t ≤ x.f0) := by
      simp only [encP, pF]
      by_cases h : x.f0 < t
      · have h2 : ¬ t ≤ x.f0 := by omega
        simp [h, h2]
      · have h2 : t ≤ x.f0 := by omega
        simp [h, h2]
    rw [List.map_cons, List.filter_cons, List.filter_cons, e, ih]
    split <;> simp
set_option maxHeartbeats 1000000 in
theorem forget_closure (t a b : Int) (B : Nat) (W : World) (hc : W.cell? ⟨B, 0, none⟩ = some (.int .i64 t)) :
    Calls Try.prog 74 (#[.agg (encP ⟨a, b⟩).toArray] ++ #[.pointer (some ⟨B, 0, none⟩)]) W fun e W' => e = .returned (.bool (decide (a < t))) ∧ Below W.heap.size W W' := by
  have hB : B < W.heap.size := World.block_lt_of_cell? W _ hc
  have hne : B ≠ W.heap.size := by omega
  show Calls Try.prog 74 #[.agg #[.int .i64 a, .int .i64 b], .pointer (some ⟨B, 0, none⟩)] W _
  go_enter Try.func74, Try.ntmps74
  go_wp2
  all_goals (go_ret; exact ⟨by first | rfl | simp_all, (Below.refl _ _).alloc (Nat.le_refl _) _⟩)
/-- What is still to be done of the copy: element j's cells, and its points, whose blocks are element j's. -/
def Todo (f : Nat → Nat) (g b0 T1 : Nat) (l : List S81) (i : Nat) (W : World) : Prop :=
  ∀ j s, i ≤ j → l[j]? = some s → ∃ v2 : Value, W.cell? ⟨g, j * 3, none⟩ = some (.string s.f0) ∧ W.cell? ⟨g, j * 3 + 1, none⟩ = some (.string s.f1) ∧ W.cell? ⟨g, j * 3 + 2, none⟩ = some v2 ∧ Kd.R k37 37 W b0 (fun k => (b0 ≤ k ∧ k < T1 ∧ k ≠ g) ∧ f k = j) v2 s.f2
theorem todo_move {f : Nat → Nat} {g b0 T1 i i' : Nat} {l : List S81} {W W' : World} {D : Nat → Prop} (h : Todo f g b0 T1 l i W) (hk : Kept W W' D) (hg : ¬ D g) (hd : ∀ k, D k → b0 ≤ k → k < T1 → f k < i') (hi : i ≤ i') : Todo f g b0 T1 l i' W' := by
  intro j s hj hs
  obtain ⟨v2, h0, h1, h2, hR⟩ := h j s (Nat.le_trans hi hj) hs
  exact ⟨v2, cell_kept h0 hk hg, cell_kept h1 hk hg, cell_kept h2 hk hg, Kd.R_kept hR hk (fun k hk2 hD => by have := hd k hD hk2.1.1 hk2.1.2.1; have := hk2.2; omega)⟩
theorem todo_of_S {g b0 n c : Nat} {l : List S81} {W : World} (h : Kd.S k81 81 W b0 (fun _ => True) (.slice (some ⟨g, 0, none⟩) n c) l) : ∃ f, Todo f g b0 W.heap.size l 0 W := by
  have hn := (Kd.S_reads' h).1
  obtain ⟨f, hR⟩ := h
  refine ⟨f, fun j s _ hs => ?_⟩
  have hjl : j < l.length := (List.getElem?_eq_some_iff.1 hs).1
  obtain ⟨cc, hcl, hM, hcc, _⟩ := Kd.R_elem hR (z81, 0) (j : Int) (by omega) (by omega)
  have hget : l.zipIdx.getD (j : Int).toNat (z81, 0) = (s, j) := by rw [Int.toNat_natCast, List.getD_eq_getElem?_getD, Kd.zip_at hs]; rfl
  rw [hget] at hM
  have hM2 : k81.M W b0 (fun k => (True ∧ k ≠ g) ∧ f k = j) s cc := hM
  obtain ⟨v2, rfl, hR2⟩ := k81_openM hM2
  exact ⟨v2, hcc 0 _ rfl, hcc 1 _ rfl, hcc 2 _ rfl, Kd.R_mono (Kd.R_bound hR2) (fun k hk => ⟨⟨hk.2.1, hk.2.2.1, hk.1.1.2⟩, hk.1.2⟩)⟩
end Go.Proofs.Ytplekidnlofioaa.Q
namespace Go.Proofs.Ytplekidnlofioaa.Q
open Go.RowKit Go.Proofs.YtplekidnlofioaaW.PrintWords Go.Proofs.YtplekidnlofioaaW.PrintLast Go.Proofs.YtplekidnlofioaaW.PrintMore
attribute [local go_sem] max2_int min2_int max_two min_two max_three min_three max_four min_four   -- for this text's walks alone
set_option linter.unusedVariables false
set_option linter.unusedSimpArgs false

/-! ### spec_l03Copy: function 79 -/
def spec_l03Copy.l0 : Nat → List (S81) → List (S81) → Int → Option ((List (S81)))
 | 0, _, _, _ => none
 | k + 1, x0, x3, x4 => if x4 < (x0.length : Int) then (if 0 ≤ x4 then ((spec_l03Points.f k ((rd_T81 x0 x4).f2)).bind fun t235 => (if x3.length < 2513169434916 then (spec_l03Copy.l0 k x0 (x3 ++ [(⟨(rd_T81 x0 x4).f0, (rd_T81 x0 x4).f1, t235⟩ : S81)]) (wrap64 (x4 + 1))) else (none))) else (none)) else (some x3)
def spec_l03Copy.f (k : Nat) (l0 : List (S81)) : Option ((List (S81))) := spec_l03Copy.l0 k l0 (([] : List (S81))) 0
theorem spec_l03Copy.mono_l : ∀ k, (∀ y0 y1 y2, LeO (spec_l03Copy.l0 k y0 y1 y2) (spec_l03Copy.l0 (k + 1) y0 y1 y2))
 | 0 => fun _ _ _ r h => by simp [spec_l03Copy.l0] at h
 | k + 1 => by
  have ih0 := spec_l03Copy.mono_l k
  · intro y0 y1 y2
    unfold spec_l03Copy.l0
    repeat' first
    | (with_reducible exact ih0 _ _ _)
    | (with_reducible exact spec_l03Points.mono _ _)
    | (with_reducible exact LeO.refl _)
    | (with_reducible exact LeO.none _)
    | (with_reducible refine LeO.ite ?_ ?_)
    | (with_reducible refine LeO.bind ?_ (fun _ => ?_))
    | exact ih0 _ _ _
    | exact spec_l03Points.mono _ _
    | exact LeO.none _
    | refine LeO.ite ?_ ?_
    | refine LeO.bind ?_ (fun _ => ?_)
theorem spec_l03Copy.mono : ∀ a0 k, LeO (spec_l03Copy.f k a0) (spec_l03Copy.f (k + 1) a0) := by
 intro a0 k
 have ih0 := spec_l03Copy.mono_l k
 unfold spec_l03Copy.f
 repeat' first
  | (with_reducible exact ih0 _ _ _)
  | (with_reducible exact spec_l03Points.mono _ _)
  | (with_reducible exact LeO.refl _)
  | (with_reducible exact LeO.none _)
  | (with_reducible refine LeO.ite ?_ ?_)
  | (with_reducible refine LeO.bind ?_ (fun _ => ?_))
  | exact ih0 _ _ _
  | exact spec_l03Points.mono _ _
  | exact LeO.none _
  | refine LeO.ite ?_ ?_
  | refine LeO.bind ?_ (fun _ => ?_)
def spec_l03Copy.T5 : Bool × List (List Nat × List Nat) := (true, [([], []), ([], []), ([], []), ([1, 2], [1, 2]), ([3], [3]), ([4], [4]), ([], []), ([], []), ([6, 7], [6, 7]), ([8], [8]), ([9], [9]), ([], []), ([], []), ([11, 12], [11, 12]), ([13], [13]), ([14], [14]), ([15], [15]), ([5, 10, 16], [5, 10, 16]), ([17], [17]), ([0, 18, 16], [0, 18]), ([19, 19, 0, 1, 2, 3, 4, 5, 6, 7, 8, 9, 10, 11, 12, 13, 14, 15, 16, 17, 18, 19], [0, 19])])
def spec_l03Copy.B5 : List Nat := [0, 0, 0, 6, 14, 30, 0, 0, 192, 448, 960, 0, 0, 6144, 14336, 30720, 63488, 131070, 262142, 524287, 1048575]
theorem spec_l03Copy.tab5 : rtab .any (opsOf Try.f79 5) = spec_l03Copy.T5 := by kernel_rfl
theorem spec_l03Copy.bits5 : waitsOk spec_l03Copy.T5.2 spec_l03Copy.B5 = true := by kernel_rfl
set_option maxHeartbeats 8000000 in
set_option maxRecDepth 100000 in
theorem spec_l03Copy.calls (k : Nat) (A0 : Option Addr) (c0 : Nat) (l0 : List (S81)) (r : List (S81)) (w : World) (hr0 : Kd.C k81 w A0 l0.length l0) (hc0 : l0.length ≤ c0) (h : spec_l03Copy.f k l0 = some r) :
 Calls Try.prog 79 #[.slice A0 l0.length c0] w fun e w' => ∃ v0_ : Value, e = .returned (v0_) ∧ Kd.S k81 81 w' w.heap.size (fun _ => True) v0_ r ∧ Below w.heap.size w w' := by
 have hu81 := Try.underlying81
 have HR0 := Aside0.mk hr0
 have HC0 := Aside0.mk hc0
 clear hr0 hc0
 have HB := Aside0.mk (Below.refl w.heap.size w)
 have H : (spec_l03Copy.l0 k l0 (([] : List (S81))) 0) = some r := h
 clear h
 obtain ⟨y229, hy229⟩ : ∃ y_ : List (S81), y_ = (([] : List (S81))) := ⟨_, rfl⟩
 replace H : (spec_l03Copy.l0 k l0 y229 0) = some r := by first | (rw [hy229]; with_reducible exact H) | (have H2_ := (Option.bind_some _ _).symm.trans H; rw [hy229]; with_reducible exact H2_) | (have H2_ := (Option.bind_some _ _).symm.trans H; with_reducible exact H2_) | with_reducible exact H | (rw [hy229]; exact H) | exact H
 have Ny229 := Aside0.mk hy229
 clear hy229
 have H' := Aside0.mk H
 clear H
 go_enter Try.func79, Try.ntmps79
 go_wp2_with (first | ((with_reducible refine gate_dst (N := 5) rfl ?_); refine Kd.S_lit k81 _ 81 ?hg (N := 5) ?hd (xs := ([] : List (S81))) (inner := []) (ok := fun _ => True) (okp := fun _ => True) ?hr ?hp (fun _ hk => hk) trivial (Below.refl _ _) (Nat.le_refl _) (by simp) ?_; (case hd => rfl); (case hg => rfl); (case hr => first | (go_simp; done) | (go_simp; rfl)); (case hp => exact (Reps.none _ _)); intro v230 w2 ho3 hb hg_ hnew_; clear hg_ hnew_; (first | rw [← Ny229.out] at ho3 | (simp only [Int.reduceToNat] at ho3; rw [← Ny229.out] at ho3)); have HO231 := ak (Kd.S_lower ho3 (below_size bl)); replace HB := ak (below_step bl hb); clear hb ho3))
 go_loopg [3, 4] k (fun kq v3 v4 w' => ∃ (x3_1 : List (S81)) (x4_1 : Int), v4 = .int .i64 x4_1 ∧ Aside0 (spec_l03Copy.l0 kq l0 x3_1 x4_1 = some r) ∧ Aside0 (kq ≤ k) ∧ Aside0 (Kd.S k81 81 w' w.heap.size (fun _ => True) v3 x3_1) ∧ Aside0 (Below w.heap.size w w'))
 case atStart => exact ⟨(y229), (0), es, H', ⟨Nat.le_refl _⟩, ⟨ks HO231⟩, ⟨bl⟩⟩
 case round =>
  clear H'
  try clear p2
  obtain ⟨x3_1, x4_1, rfl, HA, HK1, HO_3, HB⟩ := hrel
  cases gk with
  | zero => exact absurd HA.out (by simp [spec_l03Copy.l0])
  | succ k1 =>
   have H := HA.out
   clear HA
   simp only [spec_l03Copy.l0] at H
   by_cases c4 : x4_1 < (l0.length : Int)
   · rw [if_pos c4] at H
     have c4b0 : decide (x4_1 < (l0.length : Int)) = true := decide_eq_true c4
     clear c4
     by_cases c5 : 0 ≤ x4_1
     · rw [if_pos c5] at H
       have c5b0 : decide (0 ≤ x4_1) = true := decide_eq_true c5
       clear c5
       obtain ⟨t235, A60, H⟩ := bo H
       have A6 := Aside0.mk A60
       clear A60
       by_cases c7 : x3_1.length < 2513169434916
       · rw [if_pos c7] at H
         have LMc7 := Aside0.mk c7
         clear c7
         obtain ⟨y238, hy238⟩ : ∃ y_ : List (S81), y_ = (x3_1 ++ [(⟨(rd_T81 l0 x4_1).f0, (rd_T81 l0 x4_1).f1, t235⟩ : S81)]) := ⟨_, rfl⟩
         replace H : (spec_l03Copy.l0 k1 l0 y238 (wrap64 (x4_1 + 1))) = some r := by first | (rw [hy238]; with_reducible exact H) | (have H2_ := (Option.bind_some _ _).symm.trans H; rw [hy238]; with_reducible exact H2_) | (have H2_ := (Option.bind_some _ _).symm.trans H; with_reducible exact H2_) | with_reducible exact H | (rw [hy238]; exact H) | exact H
         have Ny238 := Aside0.mk hy238
         clear hy238
         have H' := Aside0.mk H
         clear H
         try go_wp2
         replace HO_3 := ak (Kd.S_drew HO_3.out)
         replace HB := ak (below_drew1 HB.out)
         have p232 : 0 ≤ (x4_1 : Int) := of_decide_eq_true am
         have q232 : x4_1 < (l0.length : Int) := of_decide_eq_true am
         obtain ⟨ad232, A232_2, c232_2, e232, hx232_0, hx232_1, hx232_2, hl232_2, hi232_2⟩ := at_T81 HR0.out x4_1 p232 q232
         have hw232_2 := hx232_2
         have hw232_1 := hx232_1
         have hw232_0 := hx232_0
         cases e232
         replace hx232_0 := cw hx232_0
         replace hx232_1 := cw hx232_1
         replace hx232_2 := cw hx232_2
         have HR232_2 := Aside0.mk hi232_2
         have HC232_2 := Aside0.mk hl232_2
         clear hi232_2 hl232_2
         replace p232 := eq_true p232
         replace q232 := eq_true q232
         have p233 : 0 ≤ (x4_1 : Int) := of_decide_eq_true am
         have q233 : x4_1 < (l0.length : Int) := of_decide_eq_true am
         obtain ⟨ad233, A233_2, c233_2, e233, hx233_0, hx233_1, hx233_2, hl233_2, hi233_2⟩ := at_T81 HR0.out x4_1 p233 q233
         have hw233_2 := hx233_2
         have hw233_1 := hx233_1
         have hw233_0 := hx233_0
         obtain rfl : ad232 = ad233 := (by injection e233)
         replace hx233_0 := cw hx233_0
         replace hx233_1 := cw hx233_1
         replace hx233_2 := cw hx233_2
         have HR233_2 := Aside0.mk hi233_2
         have HC233_2 := Aside0.mk hl233_2
         clear hi233_2 hl233_2
         replace p233 := eq_true p233
         replace q233 := eq_true q233
         have ea_ := Option.some.inj (hx232_2.symm.trans hx233_2)
         injection ea_ with ea_ en_ ec_
         subst ea_
         subst ec_
         clear en_
         have p234 : 0 ≤ (x4_1 : Int) := of_decide_eq_true am
         have q234 : x4_1 < (l0.length : Int) := of_decide_eq_true am
         obtain ⟨ad234, A234_2, c234_2, e234, hx234_0, hx234_1, hx234_2, hl234_2, hi234_2⟩ := at_T81 HR0.out x4_1 p234 q234
         have hw234_2 := hx234_2
         have hw234_1 := hx234_1
         have hw234_0 := hx234_0
         obtain rfl : ad232 = ad234 := (by injection e234)
         replace hx234_0 := cw hx234_0
         replace hx234_1 := cw hx234_1
         replace hx234_2 := cw hx234_2
         have HR234_2 := Aside0.mk hi234_2
         have HC234_2 := Aside0.mk hl234_2
         clear hi234_2 hl234_2
         replace p234 := eq_true p234
         replace q234 := eq_true q234
         have ea_ := Option.some.inj (hx232_2.symm.trans hx234_2)
         injection ea_ with ea_ en_ ec_
         subst ea_
         subst ec_
         clear en_
         refine start_ (n := 21) (S := fun w' => w'.cell? (ad232.add ((x4_1).toNat * 3)) = some (.string ((rd_T81 l0 x4_1).f0)) ∧ w'.cell? ⟨(ad232.add ((x4_1).toNat * 3)).block, (ad232.add ((x4_1).toNat * 3)).off + 1, none⟩ = some (.string ((rd_T81 l0 x4_1).f1)) ∧ w'.cell? ⟨(ad232.add ((x4_1).toNat * 3)).block, (ad232.add ((x4_1).toNat * 3)).off + 2, none⟩ = some (.slice A232_2 ((rd_T81 l0 x4_1).f2).length c232_2) ∧ w'.cell? (ad232.add ((x4_1).toNat * 3)) = some (.string ((rd_T81 l0 x4_1).f0)) ∧ w'.cell? ⟨(ad232.add ((x4_1).toNat * 3)).block, (ad232.add ((x4_1).toNat * 3)).off + 1, none⟩ = some (.string ((rd_T81 l0 x4_1).f1)) ∧ w'.cell? ⟨(ad232.add ((x4_1).toNat * 3)).block, (ad232.add ((x4_1).toNat * 3)).off + 2, none⟩ = some (.slice A232_2 ((rd_T81 l0 x4_1).f2).length c232_2) ∧ w'.cell? (ad232.add ((x4_1).toNat * 3)) = some (.string ((rd_T81 l0 x4_1).f0)) ∧ w'.cell? ⟨(ad232.add ((x4_1).toNat * 3)).block, (ad232.add ((x4_1).toNat * 3)).off + 1, none⟩ = some (.string ((rd_T81 l0 x4_1).f1)) ∧ w'.cell? ⟨(ad232.add ((x4_1).toNat * 3)).block, (ad232.add ((x4_1).toNat * 3)).off + 2, none⟩ = some (.slice A232_2 ((rd_T81 l0 x4_1).f2).length c232_2)) (ds := []) (bitsA 21 0) (by kernel_rfl) rfl rfl ⟨(cw hw232_0), (cw hw232_1), (cw hw232_2), (cw hw233_0), (cw hw233_1), (cw hw233_2), (cw hw234_0), (cw hw234_1), (cw hw234_2)⟩ (fun hHeld => ?_); refine with_tabW spec_l03Copy.tab5 spec_l03Copy.bits5 (fun HT_ HW_ => ?_)
         generalize wr.drew = w8 at HO_3 HB HR232_2 HR233_2 HR234_2 hx232_0 hx232_1 hx232_2 hx233_0 hx233_1 hx233_2 hx234_0 hx234_1 hx234_2 hHeld ⊢
         refine pu 0 (some 12) (bitsA 21 1) ?_
         refine pu 1 (some 13) (bitsA 21 3) ?_
         refine pu 2 (some 14) (bitsA 21 7) ?_
         refine pu 3 (some 15) (bitsA 21 15) ?_
         refine pu 4 (some 16) (bitsA 21 31) ?_
         refine tk 5 (some 17) (bitsA 21 63) hHeld ?_ (hy := Or.inl ⟨by rfl, by rintro w' ⟨s0, s1, s2, s3, s4, s5, s6, s7, s8⟩; go_simp; with_reducible rfl⟩)
         refine pu 6 (some 18) (bitsA 21 127) ?_
         refine pu 7 (some 19) (bitsA 21 255) ?_
         refine pu 8 (some 20) (bitsA 21 511) ?_
         refine pu 9 (some 21) (bitsA 21 1023) ?_
         refine tk 10 (some 22) (bitsA 21 2047) hHeld ?_ (hy := Or.inl ⟨by rfl, by rintro w' ⟨s0, s1, s2, s3, s4, s5, s6, s7, s8⟩; go_simp; with_reducible rfl⟩)
         refine pu 11 (some 23) (bitsA 21 4095) ?_
         refine pu 12 (some 24) (bitsA 21 8191) ?_
         refine pu 13 (some 25) (bitsA 21 16383) ?_
         refine pu 14 (some 26) (bitsA 21 32767) ?_
         refine tk 15 (some 27) (bitsA 21 65535) hHeld ?_ (hy := Or.inl ⟨by rfl, by rintro w' ⟨s0, s1, s2, s3, s4, s5, s6, s7, s8⟩; go_simp; with_reducible rfl⟩)
         refine one_ (i := 16) (N := some 28) (bitsA 21 131071) rfl rfl (one_of HT_.out (by kernel_rfl)) (by decide) (fun K hK => ?_)
         refine goes_ Try.func94 (by kernel_rfl) rfl #[.slice A232_2 ((rd_T81 l0 x4_1).f2).length c232_2] (by rfl) rfl rfl mt ?_
         with_reducible refine (spec_l03Points.calls k1 _ _ ((rd_T81 l0 x4_1).f2) t235 _ ?side1 ?side2 A6.out).mono ?_
         (case side1 => exact cb HR234_2)
         (case side2 => exact HC234_2.out)
         rintro e w9 ⟨v236, rfl, ho0, hb⟩
         refine ⟨_, rfl, ?_⟩
         replace HO_3 := ak (Kd.S_elder' (ks HO_3) (Kd.R_base ho0) hb)
         have HO237 := ak (Kd.R_lower ho0 (below_size bl))
         replace HB := ak (below_step bl hb)
         (try clear hb)
         (try clear hb2)
         (try clear hk)
         (try clear hi)
         (try clear ho0)
         obtain ⟨Ao10, co10, eo10⟩ := Kd.R_slice HO237.out
         (first | subst eo10 | (injection eo10 with f1_ f2_ f3_; have f4_ := f1_.symm; have f5_ := f3_.symm; clear f1_ f2_ f3_; subst f4_; subst f5_))
         refine hK.out _ _ ⟨(cw hw232_0), (cw hw232_1), (cw hw232_2), (cw hw233_0), (cw hw233_1), (cw hw233_2), (cw hw234_0), (cw hw234_1), (cw hw234_2)⟩ (fun hHeld => ?_)
         clear hK K
         refine nm ?_
         refine pu 17 (some 29) (bitsA 21 262143) ?_
         refine one_ (i := 18) (N := some 30) (bitsA 21 524287) rfl rfl (one_of HT_.out (by kernel_rfl)) (by decide) (fun K hK => ?_)
         refine value_ (w1 := ?_) (v := ?_) (by rfl) rfl ?_ ?_
         rotate_left 2
         · go_simp
           constructor
           · rfl
           · rfl
         refine hK.out _ _ ⟨(World.cell?_alloc_lt _ _ _ (World.block_lt_of_cell? _ _ ((cw hw232_0)))).trans ((cw hw232_0)), (World.cell?_alloc_lt _ _ _ (World.block_lt_of_cell? _ _ ((cw hw232_1)))).trans ((cw hw232_1)), (World.cell?_alloc_lt _ _ _ (World.block_lt_of_cell? _ _ ((cw hw232_2)))).trans ((cw hw232_2)), (World.cell?_alloc_lt _ _ _ (World.block_lt_of_cell? _ _ ((cw hw233_0)))).trans ((cw hw233_0)), (World.cell?_alloc_lt _ _ _ (World.block_lt_of_cell? _ _ ((cw hw233_1)))).trans ((cw hw233_1)), (World.cell?_alloc_lt _ _ _ (World.block_lt_of_cell? _ _ ((cw hw233_2)))).trans ((cw hw233_2)), (World.cell?_alloc_lt _ _ _ (World.block_lt_of_cell? _ _ ((cw hw234_0)))).trans ((cw hw234_0)), (World.cell?_alloc_lt _ _ _ (World.block_lt_of_cell? _ _ ((cw hw234_1)))).trans ((cw hw234_1)), (World.cell?_alloc_lt _ _ _ (World.block_lt_of_cell? _ _ ((cw hw234_2)))).trans ((cw hw234_2))⟩ (fun hHeld => ?_)
         clear hK K
         refine nm ?_
         refine one_ (i := 19) (N := some 31) (bitsA 21 1048575) rfl rfl (one_of HT_.out (by kernel_rfl)) (by decide) (fun K hK => ?_)
         refine Kd.S_append_step k81 (w0 := w) w.heap.size (by rfl) (.tmp 12) (.tmp 30) 24 81 (.agg #[(.string ⟨#[]⟩), (.string ⟨#[]⟩), (.slice none 0 0)]) 56 rfl Try.underlying24 info81 rfl (by decide) (by omega) u3 x3_1 (⟨(rd_T81 l0 x4_1).f0, (rd_T81 l0 x4_1).f1, t235⟩ : S81) [.string ((rd_T81 l0 x4_1).f0), .string ((rd_T81 l0 x4_1).f1), .slice Ao10 t235.length co10] (fun _ => True) (fun k_ => some k_ = (.slice Ao10 t235.length co10 : Value).ownBlock) rfl rfl ?aP (fun k_ hk_ => ((Kd.R_mono (ok' := fun k_ => ((fun _ => True)) k_ ∧ some k_ ≠ (u3 : Value).ownBlock) (Kd.R_apart' (HO237.out) (Kd.S_typed HO_3.out) (by decide)) (fun k_ hk => ⟨trivial, hk.2⟩))).1 k_ hk_.symm) ?aF ?aO ?aB ?aS ?aL ?_
         (case aP => exact k81_mkM _ _ _ (⟨(rd_T81 l0 x4_1).f0, (rd_T81 l0 x4_1).f1, t235⟩ : S81) (Kd.R_mono (Kd.R_tight rfl (Kd.R_mono (ok' := fun k_ => ((fun _ => True)) k_ ∧ some k_ ≠ (u3 : Value).ownBlock) (Kd.R_apart' (HO237.out) (Kd.S_typed HO_3.out) (by decide)) (fun k_ hk => ⟨trivial, hk.2⟩))) (fun _ h_ => h_)))
         (case aB => exact bl)
         (case aF => exact (fun _ _ => trivial))
         (case aO => exact (by (with_reducible repeat (first | apply Kd.S_alloc | apply Kd.S_drewN | apply Kd.S_drew)); exact Kd.S_mono HO_3.out (fun k_ hk => ⟨trivial, fun e_ => hk.2 e_⟩)))
         (case aS => exact (below_size bl))
         (case aL => have := LMc7.out; omega)
         intro v239 w11 ho hb hg hat
         rw [← Ny238.out] at ho
         replace HB := ak hb
         have HO240 := ak ho
         clear HO_3 HO237
         clear ho hb hg hat
         refine hK.out _ _ ⟨(cw hw232_0), (cw hw232_1), (cw hw232_2), (cw hw233_0), (cw hw233_1), (cw hw233_2), (cw hw234_0), (cw hw234_1), (cw hw234_2)⟩ (fun hHeld => ?_)
         clear hK K
         refine nm ?_
         refine pu 20 (some 3) (bitsA 21 2097151) ?_
         refine done_ (done_of HT_.out (by kernel_rfl)) ?_
         try go_wp2
         go_roundg k1
         case measure => have := HK1.out; omega
         case rel => exact ⟨(y238), (wrap64 (x4_1 + 1)), es, H', ⟨kp⟩, ⟨ks HO240⟩, ⟨bl⟩⟩
       · rw [if_neg c7] at H
         exact absurd H (by simp)
     · rw [if_neg c5] at H
       exact absurd H (by simp)
   · rw [if_neg c4] at H
     have c4b0 : decide (x4_1 < (l0.length : Int)) = false := decide_eq_false c4
     clear c4
     obtain rfl := Option.some.inj H
     go_wp2
     go_ret
     exact ⟨_, ew, ks HO_3, bl⟩

end Go.Proofs.Ytplekidnlofioaa.Q
namespace Go.Proofs.Ytplekidnlofioaa.Q
open Go.RowKit Go.Proofs.YtplekidnlofioaaW.PrintWords Go.Proofs.YtplekidnlofioaaW.PrintLast Go.Proofs.YtplekidnlofioaaW.PrintMore
attribute [local go_sem] max2_int min2_int max_two min_two max_three min_three max_four min_four   -- for this text's walks alone
set_option linter.unusedVariables false
set_option linter.unusedSimpArgs false

/-! ### spec_ForgetBefore: function 22 -/
mutual
def spec_ForgetBefore.l0 : Nat → List (S81) → Int → List (S81) → Int → Option ((List (S81)) × Bool)
 | 0, _, _, _, _ => none
 | k + 1, x0, x1, x6, x7 => if x7 < (x0.length : Int) then (spec_ForgetBefore.l1 k x0 x1 x6 x7 (([] : List (S37))) 0) else (some (x6, true))
def spec_ForgetBefore.l1 : Nat → List (S81) → Int → List (S81) → Int → List (S37) → Int → Option ((List (S81)) × Bool)
 | 0, _, _, _, _, _, _ => none
 | k + 1, x0, x1, x6, x7, x8, x9 => if 0 ≤ x7 then (if x7 < (x0.length : Int) then (if x9 < (((rd_T81 x0 x7).f2).length : Int) then (if 0 ≤ x9 then (if ((rd_T37 ((rd_T81 x0 x7).f2) x9).f0) ≥ x1 then (if x8.length < 8796093022208 then (spec_ForgetBefore.l1 k x0 x1 x6 x7 (x8 ++ [(⟨(rd_T37 ((rd_T81 x0 x7).f2) x9).f0, (rd_T37 ((rd_T81 x0 x7).f2) x9).f1⟩ : S37)]) (wrap64 (x9 + 1))) else (none)) else (spec_ForgetBefore.l1 k x0 x1 x6 x7 x8 (wrap64 (x9 + 1)))) else (none)) else (if (x8.length : Int) > 0 then (if x6.length < 2513169434916 then (spec_ForgetBefore.l0 k x0 x1 (x6 ++ [(⟨(rd_T81 x0 x7).f0, (rd_T81 x0 x7).f1, x8⟩ : S81)]) (wrap64 (x7 + 1))) else (none)) else (spec_ForgetBefore.l0 k x0 x1 x6 (wrap64 (x7 + 1))))) else (none)) else (none)
end
def spec_ForgetBefore.f (k : Nat) (l0 : List (S81)) (a1 : Int) : Option ((List (S81)) × Bool) := (spec_StoreOk.f k l0).bind fun t241 => (if t241 = true then (spec_ForgetBefore.l0 k l0 a1 (([] : List (S81))) 0) else ((spec_l03Copy.f k l0).bind fun t242 => (some (t242, false))))
theorem spec_ForgetBefore.mono_l : ∀ k, (∀ y0 y1 y2 y3, LeO (spec_ForgetBefore.l0 k y0 y1 y2 y3) (spec_ForgetBefore.l0 (k + 1) y0 y1 y2 y3)) ∧ (∀ y0 y1 y2 y3 y4 y5, LeO (spec_ForgetBefore.l1 k y0 y1 y2 y3 y4 y5) (spec_ForgetBefore.l1 (k + 1) y0 y1 y2 y3 y4 y5))
 | 0 => ⟨fun _ _ _ _ r h => by simp [spec_ForgetBefore.l0] at h, fun _ _ _ _ _ _ r h => by simp [spec_ForgetBefore.l1] at h⟩
 | k + 1 => by
  obtain ⟨ih0, ih1⟩ := spec_ForgetBefore.mono_l k
  refine ⟨?_, ?_⟩
  · intro y0 y1 y2 y3
    unfold spec_ForgetBefore.l0
    repeat' first
    | (with_reducible exact ih0 _ _ _ _)
    | (with_reducible exact ih1 _ _ _ _ _ _)
    | (with_reducible exact spec_StoreOk.mono _ _)
    | (with_reducible exact spec_l03Copy.mono _ _)
    | (with_reducible exact LeO.refl _)
    | (with_reducible exact LeO.none _)
    | (with_reducible refine LeO.ite ?_ ?_)
    | (with_reducible refine LeO.bind ?_ (fun _ => ?_))
    | exact ih0 _ _ _ _
    | exact ih1 _ _ _ _ _ _
    | exact spec_StoreOk.mono _ _
    | exact spec_l03Copy.mono _ _
    | exact LeO.none _
    | refine LeO.ite ?_ ?_
    | refine LeO.bind ?_ (fun _ => ?_)
  · intro y0 y1 y2 y3 y4 y5
    unfold spec_ForgetBefore.l1
    repeat' first
    | (with_reducible exact ih0 _ _ _ _)
    | (with_reducible exact ih1 _ _ _ _ _ _)
    | (with_reducible exact spec_StoreOk.mono _ _)
    | (with_reducible exact spec_l03Copy.mono _ _)
    | (with_reducible exact LeO.refl _)
    | (with_reducible exact LeO.none _)
    | (with_reducible refine LeO.ite ?_ ?_)
    | (with_reducible refine LeO.bind ?_ (fun _ => ?_))
    | exact ih0 _ _ _ _
    | exact ih1 _ _ _ _ _ _
    | exact spec_StoreOk.mono _ _
    | exact spec_l03Copy.mono _ _
    | exact LeO.none _
    | refine LeO.ite ?_ ?_
    | refine LeO.bind ?_ (fun _ => ?_)
theorem spec_ForgetBefore.mono : ∀ a0 a1 k, LeO (spec_ForgetBefore.f k a0 a1) (spec_ForgetBefore.f (k + 1) a0 a1) := by
 intro a0 a1 k
 obtain ⟨ih0, ih1⟩ := spec_ForgetBefore.mono_l k
 unfold spec_ForgetBefore.f
 repeat' first
  | (with_reducible exact ih0 _ _ _ _)
  | (with_reducible exact ih1 _ _ _ _ _ _)
  | (with_reducible exact spec_StoreOk.mono _ _)
  | (with_reducible exact spec_l03Copy.mono _ _)
  | (with_reducible exact LeO.refl _)
  | (with_reducible exact LeO.none _)
  | (with_reducible refine LeO.ite ?_ ?_)
  | (with_reducible refine LeO.bind ?_ (fun _ => ?_))
  | exact ih0 _ _ _ _
  | exact ih1 _ _ _ _ _ _
  | exact spec_StoreOk.mono _ _
  | exact spec_l03Copy.mono _ _
  | exact LeO.none _
  | refine LeO.ite ?_ ?_
  | refine LeO.bind ?_ (fun _ => ?_)
def spec_ForgetBefore.T14 : Bool × List (List Nat × List Nat) := (true, [([], []), ([], []), ([], []), ([1, 2], [1, 2]), ([3], [3]), ([4], [4]), ([], []), ([], []), ([6, 7], [6, 7]), ([8], [8]), ([9], [9]), ([], []), ([5, 10, 11], [5, 10, 11]), ([12], [12]), ([0, 13], [0, 13]), ([14, 14, 0, 1, 2, 3, 4, 5, 6, 7, 8, 9, 10, 11, 12, 13, 14], [0, 14])])
def spec_ForgetBefore.B14 : List Nat := [0, 0, 0, 6, 14, 30, 0, 0, 192, 448, 960, 0, 4094, 8190, 16383, 32767]
theorem spec_ForgetBefore.tab14 : rtab .any (opsOf Try.f22 14) = spec_ForgetBefore.T14 := by kernel_rfl
theorem spec_ForgetBefore.bits14 : waitsOk spec_ForgetBefore.T14.2 spec_ForgetBefore.B14 = true := by kernel_rfl
set_option maxHeartbeats 8000000 in
set_option maxRecDepth 100000 in
theorem spec_ForgetBefore.calls (k : Nat) (A0 : Option Addr) (c0 : Nat) (l0 : List (S81)) (a1 : Int) (r1 : List (S81)) (r2 : Bool) (w : World) (hr0 : Kd.C k81 w A0 l0.length l0) (hc0 : l0.length ≤ c0) (h : spec_ForgetBefore.f k l0 a1 = some (r1, r2)) :
 Calls Try.prog 22 #[.slice A0 l0.length c0, .int .i64 a1] w fun e w' => ∃ v0_ : Value, e = .returned (.tuple #[v0_, .bool r2]) ∧ Kd.S k81 81 w' w.heap.size (fun _ => True) v0_ r1 ∧ Below w.heap.size w w' := by
 have hu37 := Try.underlying37
 have hu81 := Try.underlying81
 have HR0 := Aside0.mk hr0
 have HC0 := Aside0.mk hc0
 clear hr0 hc0
 have HB := Aside0.mk (Below.refl w.heap.size w)
 have H : ((spec_StoreOk.f k l0).bind fun t241 => (if t241 = true then (spec_ForgetBefore.l0 k l0 a1 (([] : List (S81))) 0) else ((spec_l03Copy.f k l0).bind fun t242 => (some (t242, false))))) = some (r1, r2) := h
 clear h
 obtain ⟨t241, A30, H⟩ := bo H
 have A3 := Aside0.mk A30
 clear A30
 by_cases c4 : t241 = true
 · subst c4
   replace H := iT H
   obtain ⟨y245, hy245⟩ : ∃ y_ : List (S81), y_ = (([] : List (S81))) := ⟨_, rfl⟩
   replace H : (spec_ForgetBefore.l0 k l0 a1 y245 0) = some (r1, r2) := by first | (rw [hy245]; with_reducible exact H) | (have H2_ := (Option.bind_some _ _).symm.trans H; rw [hy245]; with_reducible exact H2_) | (have H2_ := (Option.bind_some _ _).symm.trans H; with_reducible exact H2_) | with_reducible exact H | (rw [hy245]; exact H) | exact H
   have Ny245 := Aside0.mk hy245
   clear hy245
   have H' := Aside0.mk H
   clear H
   go_enter Try.func22, Try.ntmps22
   go_wp2_with (first | ((with_reducible refine gate_callee (f := 16) rfl ?_); refine gl (some 11) Try.func16 #[.slice A0 l0.length c0] ?_; (with_reducible refine (spec_StoreOk.calls k _ _ l0 true _ ?side1 ?side2 A3.out).mono ?_); (case side1 => repeat (first | exact HR0.out | (with_reducible refine Kd.C_alloc ?_ _) | (with_reducible refine Kd.C_drewN ?_ _) | (with_reducible refine Kd.C_drew ?_))); (case side2 => exact HC0.out); rintro e w5 ⟨rfl, hb⟩; refine ⟨_, rfl, ?_⟩; replace HB := ak (below_step bl hb); (try clear hb); (try clear hb2); (try clear hk); (try clear hi)) | ((with_reducible refine gate_dst (N := 15) rfl ?_); refine Kd.S_lit k81 _ 81 ?hg (N := 15) ?hd (xs := ([] : List (S81))) (inner := []) (ok := fun _ => True) (okp := fun _ => True) ?hr ?hp (fun _ hk => hk) trivial (Below.refl _ _) (Nat.le_refl _) (by simp) ?_; (case hd => rfl); (case hg => rfl); (case hr => first | (go_simp; done) | (go_simp; rfl)); (case hp => exact (Reps.none _ _)); intro v246 w6 ho7 hb hg_ hnew_; clear hg_ hnew_; (first | rw [← Ny245.out] at ho7 | (simp only [Int.reduceToNat] at ho7; rw [← Ny245.out] at ho7)); have HO247 := ak (Kd.S_lower ho7 (below_size bl)); replace HB := ak (below_step bl hb); clear hb ho7))
   go_loopg [6, 7] k (fun kq v6 v7 w' => ∃ (x6_1 : List (S81)) (x7_1 : Int), v7 = .int .i64 x7_1 ∧ Aside0 (spec_ForgetBefore.l0 kq l0 a1 x6_1 x7_1 = some (r1, r2)) ∧ Aside0 (kq ≤ k) ∧ Aside0 (Kd.S k81 81 w' w.heap.size (fun _ => True) v6 x6_1) ∧ Aside0 (Below w.heap.size w w'))
   case atStart => exact ⟨(y245), (0), es, H', ⟨Nat.le_refl _⟩, ⟨ks HO247⟩, ⟨bl⟩⟩
   case round =>
    clear H'
    try clear c1
    try clear c2
    try clear p2
    try clear c4
    obtain ⟨x6_1, x7_1, rfl, HA, HK1, HO_6, HB⟩ := hrel
    cases gk with
    | zero => exact absurd HA.out (by simp [spec_ForgetBefore.l0])
    | succ k1 =>
     have H := HA.out
     clear HA
     simp only [spec_ForgetBefore.l0] at H
     by_cases c8 : x7_1 < (l0.length : Int)
     · rw [if_pos c8] at H
       have c8b0 : decide (x7_1 < (l0.length : Int)) = true := decide_eq_true c8
       clear c8
       obtain ⟨y248, hy248⟩ : ∃ y_ : List (S37), y_ = (([] : List (S37))) := ⟨_, rfl⟩
       replace H : (spec_ForgetBefore.l1 k1 l0 a1 x6_1 x7_1 y248 0) = some (r1, r2) := by first | (rw [hy248]; with_reducible exact H) | (have H2_ := (Option.bind_some _ _).symm.trans H; rw [hy248]; with_reducible exact H2_) | (have H2_ := (Option.bind_some _ _).symm.trans H; with_reducible exact H2_) | with_reducible exact H | (rw [hy248]; exact H) | exact H
       have Ny248 := Aside0.mk hy248
       clear hy248
       have H' := Aside0.mk H
       clear H
       go_wp2_with (first | ((with_reducible refine gate_dst (N := 22) rfl ?_); refine Kd.R_lit k37 _ 37 ?hg (N := 22) ?hd (xs := ([] : List (S37))) (inner := []) (ok := fun _ => True) (okp := fun _ => True) ?hr ?hp (fun _ hk => hk) trivial (Below.refl _ _) (Nat.le_refl _) (by simp) ?_; (case hd => rfl); (case hg => rfl); (case hr => first | (go_simp; done) | (go_simp; rfl)); (case hp => exact (Reps.none _ _)); intro v249 w9 ho10 hb hg_ hnew_; clear hg_ hnew_; (first | rw [← Ny248.out] at ho10 | (simp only [Int.reduceToNat] at ho10; rw [← Ny248.out] at ho10)); replace HO_6 := ak (Kd.S_elder' (ks HO_6) (Kd.R_base ho10) hb); have HO250 := ak (Kd.R_lower ho10 (below_size bl)); replace HB := ak (below_step bl hb); clear hb ho10))
       go_loopg [8, 9] k1 (fun kq v8 v9 w' => ∃ (x8_2 : List (S37)) (x9_2 : Int), v9 = .int .i64 x9_2 ∧ Aside0 (spec_ForgetBefore.l1 kq l0 a1 x6_1 x7_1 x8_2 x9_2 = some (r1, r2)) ∧ Aside0 (kq ≤ k1) ∧ Aside0 (Kd.S k81 81 w' w.heap.size (fun k_ => some k_ ≠ (v8 : Value).ownBlock) u6 x6_1) ∧ Aside0 (Kd.R k37 37 w' w.heap.size (fun _ => True) v8 x8_2) ∧ Aside0 (Below w.heap.size w w'))
       case atStart => exact ⟨(y248), (0), es, H', ⟨Nat.le_refl _⟩, ⟨by (with_reducible repeat (first | apply Kd.S_alloc | apply Kd.S_drewN | apply Kd.S_drew)); exact Kd.S_mono HO_6.out (fun _ hk => hk.2)⟩, ⟨kr HO250⟩, ⟨bl⟩⟩
       case round =>
        clear H'
        try clear c1
        try clear c2
        try clear p2
        try clear c4
        try clear c8
        try clear c8b0
        try clear p2
        obtain ⟨x8_2, x9_2, rfl, HA, HK2, HO_6, HO_8, HB⟩ := hrel
        cases gk with
        | zero => exact absurd HA.out (by simp [spec_ForgetBefore.l1])
        | succ k2 =>
         have H := HA.out
         clear HA
         simp only [spec_ForgetBefore.l1] at H
         by_cases c11 : 0 ≤ x7_1
         · rw [if_pos c11] at H
           have c11b0 : decide (0 ≤ x7_1) = true := decide_eq_true c11
           clear c11
           by_cases c12 : x7_1 < (l0.length : Int)
           · rw [if_pos c12] at H
             have c12b0 : decide (x7_1 < (l0.length : Int)) = true := decide_eq_true c12
             clear c12
             by_cases c13 : x9_2 < (((rd_T81 l0 x7_1).f2).length : Int)
             · rw [if_pos c13] at H
               have c13b0 : decide (x9_2 < (((rd_T81 l0 x7_1).f2).length : Int)) = true := decide_eq_true c13
               clear c13
               by_cases c14 : 0 ≤ x9_2
               · rw [if_pos c14] at H
                 have c14b0 : decide (0 ≤ x9_2) = true := decide_eq_true c14
                 clear c14
                 by_cases c15 : ((rd_T37 ((rd_T81 l0 x7_1).f2) x9_2).f0) ≥ a1
                 · rw [if_pos c15] at H
                   have c15b0 : decide (a1 ≤ ((rd_T37 ((rd_T81 l0 x7_1).f2) x9_2).f0)) = true := decide_eq_true c15
                   clear c15
                   by_cases c16 : x8_2.length < 8796093022208
                   · rw [if_pos c16] at H
                     have LMc16 := Aside0.mk c16
                     clear c16
                     obtain ⟨y256, hy256⟩ : ∃ y_ : List (S37), y_ = (x8_2 ++ [(⟨(rd_T37 ((rd_T81 l0 x7_1).f2) x9_2).f0, (rd_T37 ((rd_T81 l0 x7_1).f2) x9_2).f1⟩ : S37)]) := ⟨_, rfl⟩
                     replace H : (spec_ForgetBefore.l1 k2 l0 a1 x6_1 x7_1 y256 (wrap64 (x9_2 + 1))) = some (r1, r2) := by first | (rw [hy256]; with_reducible exact H) | (have H2_ := (Option.bind_some _ _).symm.trans H; rw [hy256]; with_reducible exact H2_) | (have H2_ := (Option.bind_some _ _).symm.trans H; with_reducible exact H2_) | with_reducible exact H | (rw [hy256]; exact H) | exact H
                     have Ny256 := Aside0.mk hy256
                     clear hy256
                     have H' := Aside0.mk H
                     clear H
                     have p251 : 0 ≤ (x7_1 : Int) := of_decide_eq_true am
                     have q251 : x7_1 < (l0.length : Int) := of_decide_eq_true am
                     obtain ⟨ad251, A251_2, c251_2, e251, hx251_0, hx251_1, hx251_2, hl251_2, hi251_2⟩ := at_T81 HR0.out x7_1 p251 q251
                     cases e251
                     replace hx251_0 := cw hx251_0
                     replace hx251_1 := cw hx251_1
                     replace hx251_2 := cw hx251_2
                     have HR251_2 := Aside0.mk hi251_2
                     have HC251_2 := Aside0.mk hl251_2
                     clear hi251_2 hl251_2
                     replace p251 := eq_true p251
                     replace q251 := eq_true q251
                     have p252 : 0 ≤ (x7_1 : Int) := of_decide_eq_true am
                     have q252 : x7_1 < (l0.length : Int) := of_decide_eq_true am
                     obtain ⟨ad252, A252_2, c252_2, e252, hx252_0, hx252_1, hx252_2, hl252_2, hi252_2⟩ := at_T81 HR0.out x7_1 p252 q252
                     obtain rfl : ad251 = ad252 := (by injection e252)
                     replace hx252_0 := cw hx252_0
                     replace hx252_1 := cw hx252_1
                     replace hx252_2 := cw hx252_2
                     have HR252_2 := Aside0.mk hi252_2
                     have HC252_2 := Aside0.mk hl252_2
                     clear hi252_2 hl252_2
                     replace p252 := eq_true p252
                     replace q252 := eq_true q252
                     have ea_ := Option.some.inj (hx251_2.symm.trans hx252_2)
                     injection ea_ with ea_ en_ ec_
                     subst ea_
                     subst ec_
                     clear en_
                     have p253 : 0 ≤ (x9_2 : Int) := of_decide_eq_true am
                     have q253 : x9_2 < (((rd_T81 l0 x7_1).f2).length : Int) := of_decide_eq_true am
                     obtain ⟨ad253, e253, hx253_0, hx253_1⟩ := at_T37 HR252_2.out x9_2 p253 q253
                     cases e253
                     replace hx253_0 := cw hx253_0
                     replace hx253_1 := cw hx253_1
                     replace p253 := eq_true p253
                     replace q253 := eq_true q253
                     have p254 : 0 ≤ (x7_1 : Int) := of_decide_eq_true am
                     have q254 : x7_1 < (l0.length : Int) := of_decide_eq_true am
                     obtain ⟨ad254, A254_2, c254_2, e254, hx254_0, hx254_1, hx254_2, hl254_2, hi254_2⟩ := at_T81 HR0.out x7_1 p254 q254
                     obtain rfl : ad251 = ad254 := (by injection e254)
                     replace hx254_0 := cw hx254_0
                     replace hx254_1 := cw hx254_1
                     replace hx254_2 := cw hx254_2
                     have HR254_2 := Aside0.mk hi254_2
                     have HC254_2 := Aside0.mk hl254_2
                     clear hi254_2 hl254_2
                     replace p254 := eq_true p254
                     replace q254 := eq_true q254
                     have ea_ := Option.some.inj (hx251_2.symm.trans hx254_2)
                     injection ea_ with ea_ en_ ec_
                     subst ea_
                     subst ec_
                     clear en_
                     have p255 : 0 ≤ (x9_2 : Int) := of_decide_eq_true am
                     have q255 : x9_2 < (((rd_T81 l0 x7_1).f2).length : Int) := of_decide_eq_true am
                     obtain ⟨ad255, e255, hx255_0, hx255_1⟩ := at_T37 HR254_2.out x9_2 p255 q255
                     cases e255
                     replace hx255_0 := cw hx255_0
                     replace hx255_1 := cw hx255_1
                     replace p255 := eq_true p255
                     replace q255 := eq_true q255
                     go_wp2_with (first | ((with_reducible refine gate_builtin (b := .append) (xs := #[.tmp 44, .tmp 53]) rfl ?_); at_builtin; refine Kd.R_append k37 (w0 := w) w.heap.size rfl (.tmp 44) (.tmp 53) 31 37 (.agg #[(.int .i64 0), (.int .i64 0)]) 16 rfl Try.underlying31 info37 rfl (by decide) (by omega) u8 x8_2 (⟨(rd_T37 ((rd_T81 l0 x7_1).f2) x9_2).f0, (rd_T37 ((rd_T81 l0 x7_1).f2) x9_2).f1⟩ : S37) [.int .i64 ((rd_T37 ((rd_T81 l0 x7_1).f2) x9_2).f0), .int .i64 ((rd_T37 ((rd_T81 l0 x7_1).f2) x9_2).f1)] (fun _ => True) (fun _ => False) rfl rfl ?aP (fun _ hk => hk.elim) ?aF ?aO ?aB ?aS ?aL ?_; (case aP => exact k37_mkM _ _ _ (⟨(rd_T37 ((rd_T81 l0 x7_1).f2) x9_2).f0, (rd_T37 ((rd_T81 l0 x7_1).f2) x9_2).f1⟩ : S37)); (case aB => exact bl); (case aF => exact (fun _ _ => trivial)); (case aO => exact (kr HO_8)); (case aS => exact (below_size bl)); (case aL => have := LMc16.out; omega); intro v257 w17 ho hb hg hat; rw [← Ny256.out] at ho; replace HO_6 := ak (Kd.S_after (ok := (fun _ => True)) (by (with_reducible repeat (first | apply Kd.S_alloc | apply Kd.S_drewN | apply Kd.S_drew)); exact Kd.S_mono HO_6.out (fun _ hk => ⟨trivial, hk⟩)) hg hat); replace HB := ak hb; have HO258 := ak ho; clear HO_8; clear ho hb hg hat))
                     go_roundg k2
                     case measure => have := HK1.out; have := HK2.out; omega
                     case rel => exact ⟨(y256), (wrap64 (x9_2 + 1)), es, H', ⟨by have := HK1.out; have := HK2.out; omega⟩, ⟨by (with_reducible repeat (first | apply Kd.S_alloc | apply Kd.S_drewN | apply Kd.S_drew)); exact Kd.S_mono HO_6.out (fun _ hk => hk.2)⟩, ⟨kr HO258⟩, ⟨bl⟩⟩
                   · rw [if_neg c16] at H
                     exact absurd H (by simp)
                 · rw [if_neg c15] at H
                   have c15b0 : decide (a1 ≤ ((rd_T37 ((rd_T81 l0 x7_1).f2) x9_2).f0)) = false := decide_eq_false c15
                   clear c15
                   have H' := Aside0.mk H
                   clear H
                   have p251 : 0 ≤ (x7_1 : Int) := of_decide_eq_true am
                   have q251 : x7_1 < (l0.length : Int) := of_decide_eq_true am
                   obtain ⟨ad251, A251_2, c251_2, e251, hx251_0, hx251_1, hx251_2, hl251_2, hi251_2⟩ := at_T81 HR0.out x7_1 p251 q251
                   cases e251
                   replace hx251_0 := cw hx251_0
                   replace hx251_1 := cw hx251_1
                   replace hx251_2 := cw hx251_2
                   have HR251_2 := Aside0.mk hi251_2
                   have HC251_2 := Aside0.mk hl251_2
                   clear hi251_2 hl251_2
                   replace p251 := eq_true p251
                   replace q251 := eq_true q251
                   have p252 : 0 ≤ (x7_1 : Int) := of_decide_eq_true am
                   have q252 : x7_1 < (l0.length : Int) := of_decide_eq_true am
                   obtain ⟨ad252, A252_2, c252_2, e252, hx252_0, hx252_1, hx252_2, hl252_2, hi252_2⟩ := at_T81 HR0.out x7_1 p252 q252
                   obtain rfl : ad251 = ad252 := (by injection e252)
                   replace hx252_0 := cw hx252_0
                   replace hx252_1 := cw hx252_1
                   replace hx252_2 := cw hx252_2
                   have HR252_2 := Aside0.mk hi252_2
                   have HC252_2 := Aside0.mk hl252_2
                   clear hi252_2 hl252_2
                   replace p252 := eq_true p252
                   replace q252 := eq_true q252
                   have ea_ := Option.some.inj (hx251_2.symm.trans hx252_2)
                   injection ea_ with ea_ en_ ec_
                   subst ea_
                   subst ec_
                   clear en_
                   have p253 : 0 ≤ (x9_2 : Int) := of_decide_eq_true am
                   have q253 : x9_2 < (((rd_T81 l0 x7_1).f2).length : Int) := of_decide_eq_true am
                   obtain ⟨ad253, e253, hx253_0, hx253_1⟩ := at_T37 HR252_2.out x9_2 p253 q253
                   cases e253
                   replace hx253_0 := cw hx253_0
                   replace hx253_1 := cw hx253_1
                   replace p253 := eq_true p253
                   replace q253 := eq_true q253
                   go_wp2
                   go_roundg k2
                   case measure => have := HK1.out; have := HK2.out; omega
                   case rel => exact ⟨(x8_2), (wrap64 (x9_2 + 1)), es, H', ⟨by have := HK1.out; have := HK2.out; omega⟩, ⟨ks HO_6⟩, ⟨kr HO_8⟩, ⟨bl⟩⟩
               · rw [if_neg c14] at H
                 exact absurd H (by simp)
             · rw [if_neg c13] at H
               have c13b0 : decide (x9_2 < (((rd_T81 l0 x7_1).f2).length : Int)) = false := decide_eq_false c13
               clear c13
               by_cases c18 : (x8_2.length : Int) > 0
               · rw [if_pos c18] at H
                 have c18b0 : decide (0 < (x8_2.length : Int)) = true := decide_eq_true c18
                 have c18b1 : decide (0 < x8_2.length) = true := decide_eq_true (by omega)
                 clear c18
                 by_cases c19 : x6_1.length < 2513169434916
                 · rw [if_pos c19] at H
                   have LMc19 := Aside0.mk c19
                   clear c19
                   obtain ⟨y261, hy261⟩ : ∃ y_ : List (S81), y_ = (x6_1 ++ [(⟨(rd_T81 l0 x7_1).f0, (rd_T81 l0 x7_1).f1, x8_2⟩ : S81)]) := ⟨_, rfl⟩
                   replace H : (spec_ForgetBefore.l0 k2 l0 a1 y261 (wrap64 (x7_1 + 1))) = some (r1, r2) := by first | (rw [hy261]; with_reducible exact H) | (have H2_ := (Option.bind_some _ _).symm.trans H; rw [hy261]; with_reducible exact H2_) | (have H2_ := (Option.bind_some _ _).symm.trans H; with_reducible exact H2_) | with_reducible exact H | (rw [hy261]; exact H) | exact H
                   have Ny261 := Aside0.mk hy261
                   clear hy261
                   have H' := Aside0.mk H
                   clear H
                   have p251 : 0 ≤ (x7_1 : Int) := of_decide_eq_true am
                   have q251 : x7_1 < (l0.length : Int) := of_decide_eq_true am
                   obtain ⟨ad251, A251_2, c251_2, e251, hx251_0, hx251_1, hx251_2, hl251_2, hi251_2⟩ := at_T81 HR0.out x7_1 p251 q251
                   cases e251
                   replace hx251_0 := cw hx251_0
                   replace hx251_1 := cw hx251_1
                   replace hx251_2 := cw hx251_2
                   have HR251_2 := Aside0.mk hi251_2
                   have HC251_2 := Aside0.mk hl251_2
                   clear hi251_2 hl251_2
                   replace p251 := eq_true p251
                   replace q251 := eq_true q251
                   obtain ⟨Ao20, co20, eo20⟩ := Kd.R_slice HO_8.out
                   subst eo20
                   try go_wp2
                   replace HO_6 := ak (Kd.S_drew HO_6.out)
                   replace HO_8 := ak (Kd.R_drew HO_8.out)
                   replace HB := ak (below_drew1 HB.out)
                   have p259 : 0 ≤ (x7_1 : Int) := of_decide_eq_true am
                   have q259 : x7_1 < (l0.length : Int) := of_decide_eq_true am
                   obtain ⟨ad259, A259_2, c259_2, e259, hx259_0, hx259_1, hx259_2, hl259_2, hi259_2⟩ := at_T81 HR0.out x7_1 p259 q259
                   have hw259_2 := hx259_2
                   have hw259_1 := hx259_1
                   have hw259_0 := hx259_0
                   obtain rfl : ad251 = ad259 := (by injection e259)
                   replace hx259_0 := cw hx259_0
                   replace hx259_1 := cw hx259_1
                   replace hx259_2 := cw hx259_2
                   have HR259_2 := Aside0.mk hi259_2
                   have HC259_2 := Aside0.mk hl259_2
                   clear hi259_2 hl259_2
                   replace p259 := eq_true p259
                   replace q259 := eq_true q259
                   have p260 : 0 ≤ (x7_1 : Int) := of_decide_eq_true am
                   have q260 : x7_1 < (l0.length : Int) := of_decide_eq_true am
                   obtain ⟨ad260, A260_2, c260_2, e260, hx260_0, hx260_1, hx260_2, hl260_2, hi260_2⟩ := at_T81 HR0.out x7_1 p260 q260
                   have hw260_2 := hx260_2
                   have hw260_1 := hx260_1
                   have hw260_0 := hx260_0
                   obtain rfl : ad251 = ad260 := (by injection e260)
                   replace hx260_0 := cw hx260_0
                   replace hx260_1 := cw hx260_1
                   replace hx260_2 := cw hx260_2
                   have HR260_2 := Aside0.mk hi260_2
                   have HC260_2 := Aside0.mk hl260_2
                   clear hi260_2 hl260_2
                   replace p260 := eq_true p260
                   replace q260 := eq_true q260
                   have ea_ := Option.some.inj (hx259_2.symm.trans hx260_2)
                   injection ea_ with ea_ en_ ec_
                   subst ea_
                   subst ec_
                   clear en_
                   refine start_ (n := 16) (S := fun w' => w'.cell? (ad251.add ((x7_1).toNat * 3)) = some (.string ((rd_T81 l0 x7_1).f0)) ∧ w'.cell? ⟨(ad251.add ((x7_1).toNat * 3)).block, (ad251.add ((x7_1).toNat * 3)).off + 1, none⟩ = some (.string ((rd_T81 l0 x7_1).f1)) ∧ w'.cell? ⟨(ad251.add ((x7_1).toNat * 3)).block, (ad251.add ((x7_1).toNat * 3)).off + 2, none⟩ = some (.slice A259_2 ((rd_T81 l0 x7_1).f2).length c259_2) ∧ w'.cell? (ad251.add ((x7_1).toNat * 3)) = some (.string ((rd_T81 l0 x7_1).f0)) ∧ w'.cell? ⟨(ad251.add ((x7_1).toNat * 3)).block, (ad251.add ((x7_1).toNat * 3)).off + 1, none⟩ = some (.string ((rd_T81 l0 x7_1).f1)) ∧ w'.cell? ⟨(ad251.add ((x7_1).toNat * 3)).block, (ad251.add ((x7_1).toNat * 3)).off + 2, none⟩ = some (.slice A259_2 ((rd_T81 l0 x7_1).f2).length c259_2)) (ds := []) (bitsA 16 0) (by kernel_rfl) rfl rfl ⟨(cw hw259_0), (cw hw259_1), (cw hw259_2), (cw hw260_0), (cw hw260_1), (cw hw260_2)⟩ (fun hHeld => ?_); refine with_tabW spec_ForgetBefore.tab14 spec_ForgetBefore.bits14 (fun HT_ HW_ => ?_)
                   generalize wr.drew = w21 at HO_6 HO_8 HB HR259_2 HR260_2 hx259_0 hx259_1 hx259_2 hx260_0 hx260_1 hx260_2 hHeld ⊢
                   refine pu 0 (some 58) (bitsA 16 1) ?_
                   refine pu 1 (some 59) (bitsA 16 3) ?_
                   refine pu 2 (some 60) (bitsA 16 7) ?_
                   refine pu 3 (some 61) (bitsA 16 15) ?_
                   refine pu 4 (some 62) (bitsA 16 31) ?_
                   refine tk 5 (some 63) (bitsA 16 63) hHeld ?_ (hy := Or.inl ⟨by rfl, by rintro w' ⟨s0, s1, s2, s3, s4, s5⟩; go_simp; with_reducible rfl⟩)
                   refine pu 6 (some 64) (bitsA 16 127) ?_
                   refine pu 7 (some 65) (bitsA 16 255) ?_
                   refine pu 8 (some 66) (bitsA 16 511) ?_
                   refine pu 9 (some 67) (bitsA 16 1023) ?_
                   refine tk 10 (some 68) (bitsA 16 2047) hHeld ?_ (hy := Or.inl ⟨by rfl, by rintro w' ⟨s0, s1, s2, s3, s4, s5⟩; go_simp; with_reducible rfl⟩)
                   refine pu 11 (some 69) (bitsA 16 4095) ?_
                   refine pu 12 (some 70) (bitsA 16 8191) ?_
                   refine one_ (i := 13) (N := some 71) (bitsA 16 16383) rfl rfl (one_of HT_.out (by kernel_rfl)) (by decide) (fun K hK => ?_)
                   refine value_ (w1 := ?_) (v := ?_) (by rfl) rfl ?_ ?_
                   rotate_left 2
                   · go_simp
                     constructor
                     · rfl
                     · rfl
                   refine hK.out _ _ ⟨(World.cell?_alloc_lt _ _ _ (World.block_lt_of_cell? _ _ ((cw hw259_0)))).trans ((cw hw259_0)), (World.cell?_alloc_lt _ _ _ (World.block_lt_of_cell? _ _ ((cw hw259_1)))).trans ((cw hw259_1)), (World.cell?_alloc_lt _ _ _ (World.block_lt_of_cell? _ _ ((cw hw259_2)))).trans ((cw hw259_2)), (World.cell?_alloc_lt _ _ _ (World.block_lt_of_cell? _ _ ((cw hw260_0)))).trans ((cw hw260_0)), (World.cell?_alloc_lt _ _ _ (World.block_lt_of_cell? _ _ ((cw hw260_1)))).trans ((cw hw260_1)), (World.cell?_alloc_lt _ _ _ (World.block_lt_of_cell? _ _ ((cw hw260_2)))).trans ((cw hw260_2))⟩ (fun hHeld => ?_)
                   clear hK K
                   refine nm ?_
                   refine one_ (i := 14) (N := some 72) (bitsA 16 32767) rfl rfl (one_of HT_.out (by kernel_rfl)) (by decide) (fun K hK => ?_)
                   refine Kd.S_append_step k81 (w0 := w) w.heap.size (by rfl) (.tmp 58) (.tmp 71) 24 81 (.agg #[(.string ⟨#[]⟩), (.string ⟨#[]⟩), (.slice none 0 0)]) 56 rfl Try.underlying24 info81 rfl (by decide) (by omega) u6 x6_1 (⟨(rd_T81 l0 x7_1).f0, (rd_T81 l0 x7_1).f1, x8_2⟩ : S81) [.string ((rd_T81 l0 x7_1).f0), .string ((rd_T81 l0 x7_1).f1), .slice Ao20 x8_2.length co20] (fun _ => True) (fun k_ => some k_ = (.slice Ao20 x8_2.length co20 : Value).ownBlock) rfl rfl ?aP (fun k_ hk_ => ((Kd.R_mono (ok' := fun k_ => ((fun _ => True)) k_ ∧ some k_ ≠ (u6 : Value).ownBlock) (Kd.R_apart' (HO_8.out) (Kd.S_typed HO_6.out) (by decide)) (fun k_ hk => ⟨trivial, hk.2⟩))).1 k_ hk_.symm) ?aF ?aO ?aB ?aS ?aL ?_
                   (case aP => exact k81_mkM _ _ _ (⟨(rd_T81 l0 x7_1).f0, (rd_T81 l0 x7_1).f1, x8_2⟩ : S81) (Kd.R_mono (Kd.R_tight rfl (Kd.R_mono (ok' := fun k_ => ((fun _ => True)) k_ ∧ some k_ ≠ (u6 : Value).ownBlock) (Kd.R_apart' (HO_8.out) (Kd.S_typed HO_6.out) (by decide)) (fun k_ hk => ⟨trivial, hk.2⟩))) (fun _ h_ => h_)))
                   (case aB => exact bl)
                   (case aF => exact (fun _ _ => trivial))
                   (case aO => exact (by (with_reducible repeat (first | apply Kd.S_alloc | apply Kd.S_drewN | apply Kd.S_drew)); exact Kd.S_mono HO_6.out (fun k_ hk => ⟨trivial, fun e_ => hk e_⟩)))
                   (case aS => exact (below_size bl))
                   (case aL => have := LMc19.out; omega)
                   intro v262 w22 ho hb hg hat
                   rw [← Ny261.out] at ho
                   replace HB := ak hb
                   have HO263 := ak ho
                   clear HO_6 HO_8
                   clear ho hb hg hat
                   refine hK.out _ _ ⟨(cw hw259_0), (cw hw259_1), (cw hw259_2), (cw hw260_0), (cw hw260_1), (cw hw260_2)⟩ (fun hHeld => ?_)
                   clear hK K
                   refine nm ?_
                   refine pu 15 (some 6) (bitsA 16 65535) ?_
                   refine done_ (done_of HT_.out (by kernel_rfl)) ?_
                   try go_wp2
                   go_roundg k2
                   case measure => have := HK1.out; have := HK2.out; omega
                   case rel => exact ⟨(y261), (wrap64 (x7_1 + 1)), es, H', ⟨by have := HK1.out; have := HK2.out; omega⟩, ⟨ks HO263⟩, ⟨bl⟩⟩
                 · rw [if_neg c19] at H
                   exact absurd H (by simp)
               · rw [if_neg c18] at H
                 have c18b0 : decide (0 < (x8_2.length : Int)) = false := decide_eq_false c18
                 have c18b1 : decide (0 < x8_2.length) = false := decide_eq_false (by omega)
                 clear c18
                 have H' := Aside0.mk H
                 clear H
                 have p251 : 0 ≤ (x7_1 : Int) := of_decide_eq_true am
                 have q251 : x7_1 < (l0.length : Int) := of_decide_eq_true am
                 obtain ⟨ad251, A251_2, c251_2, e251, hx251_0, hx251_1, hx251_2, hl251_2, hi251_2⟩ := at_T81 HR0.out x7_1 p251 q251
                 cases e251
                 replace hx251_0 := cw hx251_0
                 replace hx251_1 := cw hx251_1
                 replace hx251_2 := cw hx251_2
                 have HR251_2 := Aside0.mk hi251_2
                 have HC251_2 := Aside0.mk hl251_2
                 clear hi251_2 hl251_2
                 replace p251 := eq_true p251
                 replace q251 := eq_true q251
                 obtain ⟨Ao23, co23, eo23⟩ := Kd.R_slice HO_8.out
                 subst eo23
                 go_wp2
                 go_roundg k2
                 case measure => have := HK1.out; have := HK2.out; omega
                 case rel => exact ⟨(x6_1), (wrap64 (x7_1 + 1)), es, H', ⟨by have := HK1.out; have := HK2.out; omega⟩, ⟨by (with_reducible repeat (first | apply Kd.S_alloc | apply Kd.S_drewN | apply Kd.S_drew)); exact Kd.S_mono HO_6.out (fun _ hk => trivial)⟩, ⟨bl⟩⟩
           · rw [if_neg c12] at H
             exact absurd H (by simp)
         · rw [if_neg c11] at H
           exact absurd H (by simp)
     · rw [if_neg c8] at H
       have c8b0 : decide (x7_1 < (l0.length : Int)) = false := decide_eq_false c8
       clear c8
       simp only [Option.some.injEq, Prod.mk.injEq] at H
       obtain ⟨rfl, rfl⟩ := H
       go_wp2
       go_ret2
       exact ⟨_, ew, ks HO_6, bl⟩
 · replace c4 := Bool.eq_false_iff.mpr c4
   subst c4
   replace H := iF H
   obtain ⟨t242, A240, H⟩ := bo H
   have A24 := Aside0.mk A240
   clear A240
   simp only [Option.some.injEq, Prod.mk.injEq] at H
   obtain ⟨rfl, rfl⟩ := H
   go_enter Try.func22, Try.ntmps22
   go_wp2_with (first | ((with_reducible refine gate_callee (f := 16) rfl ?_); refine gl (some 11) Try.func16 #[.slice A0 l0.length c0] ?_; (with_reducible refine (spec_StoreOk.calls k _ _ l0 false _ ?side1 ?side2 A3.out).mono ?_); (case side1 => repeat (first | exact HR0.out | (with_reducible refine Kd.C_alloc ?_ _) | (with_reducible refine Kd.C_drewN ?_ _) | (with_reducible refine Kd.C_drew ?_))); (case side2 => exact HC0.out); rintro e w25 ⟨rfl, hb⟩; refine ⟨_, rfl, ?_⟩; replace HB := ak (below_step bl hb); (try clear hb); (try clear hb2); (try clear hk); (try clear hi)) | ((with_reducible refine gate_callee (f := 79) rfl ?_); refine gl (some 14) Try.func79 #[.slice A0 l0.length c0] ?_; (with_reducible refine (spec_l03Copy.calls k _ _ l0 t242 _ ?side1 ?side2 A24.out).mono ?_); (case side1 => exact cb HR0); (case side2 => exact HC0.out); rintro e w26 ⟨v243, rfl, ho0, hb⟩; refine ⟨_, rfl, ?_⟩; have HO244 := ak (Kd.S_lower ho0 (below_size bl)); replace HB := ak (below_step bl hb); (try clear hb); (try clear hb2); (try clear hk); (try clear hi); (try clear ho0)))
   go_ret2
   exact ⟨_, ew, ks HO244, bl⟩

end Go.Proofs.Ytplekidnlofioaa.Q
namespace Go.Proofs.Ytplekidnlofioaa.Q
open Go.RowKit Go.Proofs.YtplekidnlofioaaW.PrintWords Go.Proofs.YtplekidnlofioaaW.PrintLast
theorem impl_ownSeries_l0_ev (l : List S81) (hx : l.length ≤ 1048576) (hf : ∀ s ∈ l, s.f2.length ≤ 1048576) : ∀ suf pre, l = pre ++ suf → Ev (fun k => impl_ownSeries.l0 k pre l (l.length : Int) (pre.length : Int)) l := by
  intro suf
  induction suf with
  | nil =>
    intro pre h
    refine Ev.step (fun k => by rw [impl_ownSeries.l0]) ?_
    have hlt : ¬ ((pre.length : Int) < (l.length : Int)) := by rw [h]; simp
    simp only [if_neg hlt]
    rw [h, List.append_nil]
    exact Ev.now _
  | cons s suf ih =>
    intro pre h
    refine Ev.step (fun k => by rw [impl_ownSeries.l0]) ?_
    have hl : l.length = pre.length + (suf.length + 1) := by rw [h, List.length_append, List.length_cons]
    have hlt : (pre.length : Int) < (l.length : Int) := by omega
    have hb : pre.length < 2513169434916 := by omega
    have hw := wrapn pre.length (by omega)
    have hrd : rd_T81 l (pre.length : Int) = s := by rw [h]; exact rdS_mid _ _ _
    have hs := hf s (by rw [h]; simp)
    have hr := ih (pre ++ [s]) (by rw [h]; simp)
    rw [List.length_append, List.length_singleton] at hr
    simp only [if_pos hlt, if_pos (nn _), hrd, clone_v s.f2 (by omega), Option.bind_some, if_pos hb, hw]
    exact hr
theorem impl_ownSeries_ev (l : List S81) (hx : l.length ≤ 1048576) (hf : ∀ s ∈ l, s.f2.length ≤ 1048576) : Ev (fun k => impl_ownSeries.f k l) l := impl_ownSeries_l0_ev l hx hf l [] rfl
theorem spec_l03Copy_l0_ev (l : List S81) (hx : l.length ≤ 1048576) (hf : ∀ s ∈ l, s.f2.length ≤ 1048576) : ∀ suf pre, l = pre ++ suf → Ev (fun k => spec_l03Copy.l0 k l pre (pre.length : Int)) l := by
  intro suf
  induction suf with
  | nil =>
    intro pre h
    refine Ev.step (fun k => by rw [spec_l03Copy.l0]) ?_
    have hlt : ¬ ((pre.length : Int) < (l.length : Int)) := by rw [h]; simp
    simp only [if_neg hlt]
    rw [h, List.append_nil]
    exact Ev.now _
  | cons s suf ih =>
    intro pre h
    refine Ev.step (fun k => by rw [spec_l03Copy.l0]) ?_
    have hl : l.length = pre.length + (suf.length + 1) := by rw [h, List.length_append, List.length_cons]
    have hlt : (pre.length : Int) < (l.length : Int) := by omega
    have hb : pre.length < 2513169434916 := by omega
    have hw := wrapn pre.length (by omega)
    have hrd : rd_T81 l (pre.length : Int) = s := by rw [h]; exact rdS_mid _ _ _
    have hs := hf s (by rw [h]; simp)
    have hr := ih (pre ++ [s]) (by rw [h]; simp)
    rw [List.length_append, List.length_singleton] at hr
    simp only [if_pos hlt, if_pos (nn _), hrd, if_pos hb, hw]
    exact Ev.bind (spec_l03Points_ev s.f2 (by omega)) hr
theorem spec_l03Copy_ev (l : List S81) (hx : l.length ≤ 1048576) (hf : ∀ s ∈ l, s.f2.length ≤ 1048576) : Ev (fun k => spec_l03Copy.f k l) l := spec_l03Copy_l0_ev l hx hf l [] rfl
def forgV (t : Int) (l : List S81) : List S81 × Bool := if storeOk l = true then (forg t l, true) else (l, false)
end Go.Proofs.Ytplekidnlofioaa.Q
