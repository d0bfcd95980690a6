/- Part 4 of the proof of FnExactClassesOf: contracts of the functions that it reaches, printed and by hand, and what they come to in plain Lean. -/
import Derived.Test.YtplekidnlofioaaAFnExactClassesOf2
import Derived.Lib.SliceRun
import Derived.Test.YtplekidnlofioaaAFnExactClassesOf3
import Derived.WalkLawsBesides
namespace Go.Proofs.Ytplekidnlofioaa.Q
open Go.RowKit Go.Proofs.YtplekidnlofioaaW.PrintWords Go.Proofs.YtplekidnlofioaaW.PrintLast Go.Proofs.YtplekidnlofioaaW.PrintMore
attribute [local go_sem] max2_int min2_int max_two min_two max_three min_three max_four min_four   -- for this text's walks alone
set_option linter.unusedVariables false
set_option linter.unusedSimpArgs false

/-! ### slices_Clone_impl_Point_impl_Point: function 66 -/
def slices_Clone_impl_Point_impl_Point.f (l0 : List (S37)) : Option ((List (S37))) := (some (([] : List (S37)) : List (S37))).bind fun y152 => (if y152.length + l0.length < 8796093022208 then (some (y152 ++ l0)) else (none))
set_option maxHeartbeats 8000000 in
set_option maxRecDepth 100000 in
theorem slices_Clone_impl_Point_impl_Point.calls_some (ad_ : Addr) (c0 : Nat) (l0 : List (S37)) (r : List (S37)) (w : World) (hr0 : Kd.C k37 w (some ad_) l0.length l0) (hc0 : l0.length ≤ c0) (h : slices_Clone_impl_Point_impl_Point.f l0 = some r) :
 Calls Try.prog 66 #[.slice (some ad_) l0.length c0] w fun e w' => ∃ v0_ : Value, e = .returned (v0_) ∧ Kd.R k37 37 w' w.heap.size (fun _ => True) v0_ r ∧ Below w.heap.size w w' := by
 have HR0 := Aside0.mk hr0
 have HC0 := Aside0.mk hc0
 clear hr0 hc0
 have HB := Aside0.mk (Below.refl w.heap.size w)
 have H : ((some (([] : List (S37)) : List (S37))).bind fun y152 => (if y152.length + l0.length < 8796093022208 then (some (y152 ++ l0)) else (none))) = some r := h
 clear h
 obtain ⟨y152, hy152⟩ : ∃ y_ : List (S37), y_ = (([] : List (S37))) := ⟨_, rfl⟩
 replace H : (if y152.length + l0.length < 8796093022208 then (some (y152 ++ l0)) else (none)) = some r := by first | (rw [hy152]; with_reducible exact H) | (have H2_ := (Option.bind_some _ _).symm.trans H; rw [hy152]; with_reducible exact H2_) | (have H2_ := (Option.bind_some _ _).symm.trans H; with_reducible exact H2_) | with_reducible exact H | (rw [hy152]; exact H) | exact H
 have Ny152 := Aside0.mk hy152
 clear hy152
 by_cases c2 : y152.length + l0.length < 8796093022208
 · rw [if_pos c2] at H
   have LMc2 := Aside0.mk c2
   clear c2
   obtain ⟨y155, hy155⟩ : ∃ y_ : List (S37), y_ = (y152 ++ l0) := ⟨_, rfl⟩
   replace H : (some y155) = some r := by first | (rw [hy155]; with_reducible exact H) | (have H2_ := (Option.bind_some _ _).symm.trans H; rw [hy155]; with_reducible exact H2_) | (have H2_ := (Option.bind_some _ _).symm.trans H; with_reducible exact H2_) | with_reducible exact H | (rw [hy155]; exact H) | exact H
   have Ny155 := Aside0.mk hy155
   clear hy155
   obtain rfl := Option.some.inj H
   have hnil := fun W : World => Lib.run_eql_slice_nil (P := Try.prog) W 31 37 (some ad_) l0.length c0 0 0 Try.underlying31
   go_enter Try.func66, Try.ntmps66
   go_wp2_with (first | ((with_reducible refine gate_dst (N := 5) rfl ?_); refine Kd.R_lit k37 _ 37 ?hg (N := 5) ?hd (xs := ([] : List (S37))) (inner := []) (ok := fun _ => True) (okp := fun _ => True) ?hr ?hp (fun _ hk => hk) trivial (Below.refl _ _) (Nat.le_refl _) (by simp) ?_; (case hd => rfl); (case hg => rfl); (case hr => first | (go_simp; done) | (go_simp; rfl)); (case hp => exact (Reps.none _ _)); intro v153 w3 ho4 hb hg_ hnew_; clear hg_ hnew_; (first | rw [← Ny152.out] at ho4 | (simp only [Int.reduceToNat] at ho4; rw [← Ny152.out] at ho4)); have HO154 := ak (Kd.R_lower ho4 (below_size bl)); replace HB := ak (below_step bl hb); clear hb ho4) | ((with_reducible refine gate_builtin (b := .append) (xs := #[.tmp 5, .tmp 6]) rfl ?_); at_builtin; refine Kd.R_append_rows k37 (w0 := w) w.heap.size rfl (.tmp 5) (.tmp 6) 31 37 (.agg #[(.int .i64 0), (.int .i64 0)]) 16 rfl Try.underlying31 info37 rfl (by decide) (by omega) v153 y152 l0 _ _ _ (fun _ => True) (fun _ => False) rfl rfl ?aO ?aR (fun _ _ h => h) (fun _ h => h.elim) ?aF ?aB ?aS ?aL ?_; (case aR => exact cb HR0); (case aB => exact bl); (case aF => exact (fun _ _ => trivial)); (case aO => exact (kr HO154)); (case aS => exact (below_size bl)); (case aL => have := LMc2.out; omega); intro v156 w5 ho hb hg hat; rw [← Ny155.out] at ho; replace HB := ak hb; have HO157 := ak ho; clear HO154; clear ho hb hg hat))
   go_ret
   exact ⟨_, ew, kr HO157, bl⟩
 · rw [if_neg c2] at H
   exact absurd H (by simp)
set_option maxHeartbeats 8000000 in
set_option maxRecDepth 100000 in
theorem slices_Clone_impl_Point_impl_Point.calls_nil (c0 : Nat) (r : List (S37)) (w : World) (h : slices_Clone_impl_Point_impl_Point.f [] = some r) :
 Calls Try.prog 66 #[.slice none 0 c0] w fun e w' => ∃ v0_ : Value, e = .returned (v0_) ∧ Kd.R k37 37 w' w.heap.size (fun _ => True) v0_ r ∧ Below w.heap.size w w' := by
 obtain rfl : r = [] := by have h_ := h; simp [slices_Clone_impl_Point_impl_Point.f] at h_; first | exact h_ | exact h_.symm
 have hnil := fun W : World => Lib.run_eql_slice_nil (P := Try.prog) W 31 37 none 0 c0 0 0 Try.underlying31
 go_enter Try.func66, Try.ntmps66
 go_wp2
 go_ret
 exact ⟨_, rfl, Kd.R_nil _ _ _ _ _, Below.refl _ _⟩
theorem slices_Clone_impl_Point_impl_Point.calls (A0 : Option Addr) (c0 : Nat) (l0 : List (S37)) (r : List (S37)) (w : World) (hr0 : Kd.C k37 w A0 l0.length l0) (hc0 : l0.length ≤ c0) (h : slices_Clone_impl_Point_impl_Point.f l0 = some r) :
 Calls Try.prog 66 #[.slice A0 l0.length c0] w fun e w' => ∃ v0_ : Value, e = .returned (v0_) ∧ Kd.R k37 37 w' w.heap.size (fun _ => True) v0_ r ∧ Below w.heap.size w w' := by
 cases A0 with
 | none =>
  obtain rfl : l0 = [] := by
   rcases l0 with _ | ⟨x_, xs_⟩
   · rfl
   · obtain ⟨ad_, _, e_, _⟩ := Kd.C_get hr0 x_ 0 (by decide) (by simp)
     cases e_
  exact slices_Clone_impl_Point_impl_Point.calls_nil c0 r w h
 | some ad_ => exact slices_Clone_impl_Point_impl_Point.calls_some ad_ c0 l0 r w hr0 hc0 h

end Go.Proofs.Ytplekidnlofioaa.Q
namespace Go.Proofs.Ytplekidnlofioaa.Q
open Go.RowKit Go.Proofs.YtplekidnlofioaaW.PrintWords Go.Proofs.YtplekidnlofioaaW.PrintLast Go.Proofs.YtplekidnlofioaaW.PrintMore
attribute [local go_sem] max2_int min2_int max_two min_two max_three min_three max_four min_four   -- for this text's walks alone
set_option linter.unusedVariables false
set_option linter.unusedSimpArgs false

/-! ### impl_pointsOf: function 67 -/
def impl_pointsOf.l0 : Nat → ByteArray → ByteArray → List (S81) → Int → Int → Option ((List (S37)))
 | 0, _, _, _, _, _ => none
 | k + 1, x1, x2, x9, x10, x11 => if x11 < x10 then (if 0 ≤ x11 then (if x11 < (x9.length : Int) then (if ((rd_T81 x9 x11).f0).toList = x1.toList then (if ((rd_T81 x9 x11).f1).toList = x2.toList then (some ((rd_T81 x9 x11).f2)) else (impl_pointsOf.l0 k x1 x2 x9 x10 (wrap64 (x11 + 1)))) else (impl_pointsOf.l0 k x1 x2 x9 x10 (wrap64 (x11 + 1)))) else (none)) else (none)) else (some ([] : List (S37)))
def impl_pointsOf.f (k : Nat) (l0 : List (S81)) (a1 : ByteArray) (a2 : ByteArray) : Option ((List (S37))) := impl_pointsOf.l0 k a1 a2 l0 (l0.length : Int) 0
theorem impl_pointsOf.mono_l : ∀ k, (∀ y0 y1 y2 y3 y4, LeO (impl_pointsOf.l0 k y0 y1 y2 y3 y4) (impl_pointsOf.l0 (k + 1) y0 y1 y2 y3 y4))
 | 0 => fun _ _ _ _ _ r h => by simp [impl_pointsOf.l0] at h
 | k + 1 => by
  have ih0 := impl_pointsOf.mono_l k
  · intro y0 y1 y2 y3 y4
    unfold impl_pointsOf.l0
    repeat' first
    | (with_reducible exact ih0 _ _ _ _ _)
    | (with_reducible exact LeO.refl _)
    | (with_reducible exact LeO.none _)
    | (with_reducible refine LeO.ite ?_ ?_)
    | (with_reducible refine LeO.bind ?_ (fun _ => ?_))
    | exact ih0 _ _ _ _ _
    | exact LeO.none _
    | refine LeO.ite ?_ ?_
    | refine LeO.bind ?_ (fun _ => ?_)
theorem impl_pointsOf.mono : ∀ a0 a1 a2 k, LeO (impl_pointsOf.f k a0 a1 a2) (impl_pointsOf.f (k + 1) a0 a1 a2) := by
 intro a0 a1 a2 k
 have ih0 := impl_pointsOf.mono_l k
 unfold impl_pointsOf.f
 repeat' first
  | (with_reducible exact ih0 _ _ _ _ _)
  | (with_reducible exact LeO.refl _)
  | (with_reducible exact LeO.none _)
  | (with_reducible refine LeO.ite ?_ ?_)
  | (with_reducible refine LeO.bind ?_ (fun _ => ?_))
  | exact ih0 _ _ _ _ _
  | exact LeO.none _
  | refine LeO.ite ?_ ?_
  | refine LeO.bind ?_ (fun _ => ?_)
set_option maxHeartbeats 8000000 in
set_option maxRecDepth 100000 in
theorem impl_pointsOf.calls (k : Nat) (P0_ : Nat → Prop) (A0 : Option Addr) (c0 : Nat) (l0 : List (S81)) (a1 : ByteArray) (a2 : ByteArray) (r : List (S37)) (w : World) (hs0 : Kd.V k81 81 w w.heap.size (fun k_ => P0_ k_) (.slice A0 l0.length c0) l0) (h : impl_pointsOf.f k l0 a1 a2 = some r) :
 Calls Try.prog 67 #[.slice A0 l0.length c0, .string a1, .string a2] w fun e w' => ∃ v0_ : Value, e = .returned (v0_) ∧ Kd.V k37 37 w' w.heap.size (fun k_ => (P0_ k_ ∨ w.heap.size ≤ k_)) v0_ r ∧ Below w.heap.size w w' := by
 have hu81 := Try.underlying81
 have HO0 := Aside0.mk (show Kd.V k81 81 w w.heap.size (fun k_ => (P0_ k_ ∨ w.heap.size ≤ k_)) (.slice A0 l0.length c0) l0 from Kd.V_mono hs0 (fun k_ hk => .inl hk))
 have HB := Aside0.mk (Below.refl w.heap.size w)
 have H : (impl_pointsOf.l0 k a1 a2 l0 (l0.length : Int) 0) = some r := h
 clear h
 have H' := Aside0.mk H
 clear H
 go_enter Try.func67, Try.ntmps67
 go_wp2
 go_loopg [11] k (fun kq v11 w' => ∃ (x11_1 : Int), v11 = .int .i64 x11_1 ∧ Aside0 (impl_pointsOf.l0 kq a1 a2 l0 (l0.length : Int) x11_1 = some r) ∧ Aside0 (kq ≤ k) ∧ Aside0 (Kd.V k81 81 w' w.heap.size (fun k_ => (P0_ k_ ∨ w.heap.size ≤ k_)) (.slice A0 l0.length c0) l0) ∧ Aside0 (Below w.heap.size w w'))
 case atStart => exact ⟨(0), es, H', ⟨Nat.le_refl _⟩, ⟨by (with_reducible repeat (first | apply Kd.V_alloc | apply Kd.V_drewN | apply Kd.V_drew)); exact HO0.out⟩, ⟨bl⟩⟩
 case round =>
  clear H'
  try clear p2
  obtain ⟨x11_1, rfl, HA, HK1, HO_9, HB⟩ := hrel
  cases gk with
  | zero => exact absurd HA.out (by simp [impl_pointsOf.l0])
  | succ k1 =>
   have H := HA.out
   clear HA
   simp only [impl_pointsOf.l0] at H
   by_cases c4 : x11_1 < (l0.length : Int)
   · rw [if_pos c4] at H
     have c4b0 : decide (x11_1 < (l0.length : Int)) = true := decide_eq_true c4
     clear c4
     by_cases c5 : 0 ≤ x11_1
     · rw [if_pos c5] at H
       have c5b0 : decide (0 ≤ x11_1) = true := decide_eq_true c5
       clear c5
       by_cases c6 : x11_1 < (l0.length : Int)
       · rw [if_pos c6] at H
         have c6b0 : decide (x11_1 < (l0.length : Int)) = true := decide_eq_true c6
         clear c6
         by_cases c7 : ((rd_T81 l0 x11_1).f0).toList = a1.toList
         · rw [if_pos c7] at H
           have c7b0 : (((rd_T81 l0 x11_1).f0).toList == a1.toList) = true := beq_iff_eq.mpr c7
           have c7b1 : (((rd_T81 l0 x11_1).f0).toList != a1.toList) = false := bne_eq_false_iff_eq.mpr c7
           clear c7
           by_cases c8 : ((rd_T81 l0 x11_1).f1).toList = a2.toList
           · rw [if_pos c8] at H
             have c8b0 : (((rd_T81 l0 x11_1).f1).toList == a2.toList) = true := beq_iff_eq.mpr c8
             have c8b1 : (((rd_T81 l0 x11_1).f1).toList != a2.toList) = false := bne_eq_false_iff_eq.mpr c8
             clear c8
             obtain rfl := Option.some.inj H
             have p170 : 0 ≤ (x11_1 : Int) := of_decide_eq_true am
             have q170 : x11_1 < (l0.length : Int) := of_decide_eq_true am
             obtain ⟨ad170, A170_2, c170_2, e170, hx170_0, hx170_1, hx170_2, hl170_2, hi170_2⟩ := at_T81 (Kd.V_reads' HO_9.out).2.2 x11_1 p170 q170
             cases e170
             obtain ⟨ce170, hce170, hMe170, hcc170⟩ := Kd.V_get HO_9.out z81 x11_1 p170 (by first | exact q170 | exact of_decide_eq_true am | (have e_ := (Kd.V_reads' HO_9.out).1; omega))
             obtain ⟨ua170_2, uc170_2, rfl, ul170_2, ge170_2⟩ := k81_openF hMe170
             have hv170_2 := hcc170 2 _ rfl
             rw [add_field _ _ 2 (by omega)] at hv170_2
             replace hv170_2 := Option.some.inj (hv170_2.symm.trans hx170_2)
             injection hv170_2 with hva_ hvn_ hvc_
             rw [hva_] at ge170_2
             rw [hvc_] at ul170_2
             have HL170_2 := Aside0.mk (show Kd.V k37 37 _ w.heap.size _ _ ((rd_T81 l0 x11_1).f2) from Kd.V_mk ul170_2 ge170_2)
             clear hva_ hvn_ hvc_ ge170_2 ul170_2
             clear hcc170 hce170
             have HR170_2 := Aside0.mk hi170_2
             have HC170_2 := Aside0.mk hl170_2
             clear hi170_2 hl170_2
             replace p170 := eq_true p170
             replace q170 := eq_true q170
             go_wp2_with (first | ((with_reducible refine gate_dst (N := 8) rfl ?_); refine bx 8 #[.string (⟨#[]⟩ : ByteArray), .string (⟨#[]⟩ : ByteArray), .slice none 0 0] 81 ?_; intro gb171 hg w9 hbox hb; replace HO_9 := ak (Kd.V_below (Kd.V_elderB (by (with_reducible repeat (first | apply Kd.V_alloc | apply Kd.V_drewN | apply Kd.V_drew)); exact HO_9.out) gb171 (Nat.le_of_eq hg.symm)) hb); replace HL170_2 := ak (Kd.V_below (Kd.V_elderB (by (with_reducible repeat (first | apply Kd.V_alloc | apply Kd.V_drewN | apply Kd.V_drew)); exact HL170_2.out) gb171 (Nat.le_of_eq hg.symm)) hb); replace HR170_2 := ak (Kd.C_below (by repeat (first | (with_reducible exact HR170_2.out) | (with_reducible refine Kd.C_alloc ?_ _) | (with_reducible refine Kd.C_drewN ?_ _) | (with_reducible refine Kd.C_drew ?_) | exact HR170_2.out)) hb); have BK171 := ak hbox; have GW171 := gs hg bl; have GE171 := gs hg bl; replace HB := ak (below_step bl hb); clear hb hbox hg; obtain ⟨hcz10_0, hcz10_1, hcz10_2, hfz10_0, hfz10_1, hfz10_2⟩ := cz3 BK171))
             go_ret
             exact ⟨_, ew, by (with_reducible repeat (first | apply Kd.V_alloc | apply Kd.V_drewN | apply Kd.V_drew)); exact Kd.V_mono (Kd.V_far (p := ⟨gb171, 2, none⟩) (Kd.V_far (p := ⟨gb171, 1, none⟩) (Kd.V_far (p := ⟨gb171, 0, none⟩) (Kd.V_mono HL170_2.out (fun k_ hk => (⟨hk, hk.2⟩ : _ ∧ k_ ≠ gb171))) (fun _ hk => hk.2) (.string ((rd_T81 l0 x11_1).f0))) (fun _ hk => hk.2) (.string ((rd_T81 l0 x11_1).f1))) (fun _ hk => hk.2) (.slice A170_2 ((rd_T81 l0 x11_1).f2).length c170_2)) (fun _ hk => hk.1.1), bl1 GE171⟩
           · rw [if_neg c8] at H
             have c8b0 : (((rd_T81 l0 x11_1).f1).toList == a2.toList) = false := beq_eq_false_iff_ne.mpr c8
             have c8b1 : (((rd_T81 l0 x11_1).f1).toList != a2.toList) = true := bne_iff_ne.mpr c8
             have H' := Aside0.mk H
             clear H
             have p170 : 0 ≤ (x11_1 : Int) := of_decide_eq_true am
             have q170 : x11_1 < (l0.length : Int) := of_decide_eq_true am
             obtain ⟨ad170, A170_2, c170_2, e170, hx170_0, hx170_1, hx170_2, hl170_2, hi170_2⟩ := at_T81 (Kd.V_reads' HO_9.out).2.2 x11_1 p170 q170
             cases e170
             obtain ⟨ce170, hce170, hMe170, hcc170⟩ := Kd.V_get HO_9.out z81 x11_1 p170 (by first | exact q170 | exact of_decide_eq_true am | (have e_ := (Kd.V_reads' HO_9.out).1; omega))
             obtain ⟨ua170_2, uc170_2, rfl, ul170_2, ge170_2⟩ := k81_openF hMe170
             have hv170_2 := hcc170 2 _ rfl
             rw [add_field _ _ 2 (by omega)] at hv170_2
             replace hv170_2 := Option.some.inj (hv170_2.symm.trans hx170_2)
             injection hv170_2 with hva_ hvn_ hvc_
             rw [hva_] at ge170_2
             rw [hvc_] at ul170_2
             have HL170_2 := Aside0.mk (show Kd.V k37 37 _ w.heap.size _ _ ((rd_T81 l0 x11_1).f2) from Kd.V_mk ul170_2 ge170_2)
             clear hva_ hvn_ hvc_ ge170_2 ul170_2
             clear hcc170 hce170
             have HR170_2 := Aside0.mk hi170_2
             have HC170_2 := Aside0.mk hl170_2
             clear hi170_2 hl170_2
             replace p170 := eq_true p170
             replace q170 := eq_true q170
             go_wp2_with (first | ((with_reducible refine gate_dst (N := 8) rfl ?_); refine bx 8 #[.string (⟨#[]⟩ : ByteArray), .string (⟨#[]⟩ : ByteArray), .slice none 0 0] 81 ?_; intro gb171 hg w11 hbox hb; replace HO_9 := ak (Kd.V_below (Kd.V_elderB (by (with_reducible repeat (first | apply Kd.V_alloc | apply Kd.V_drewN | apply Kd.V_drew)); exact HO_9.out) gb171 (Nat.le_of_eq hg.symm)) hb); replace HL170_2 := ak (Kd.V_below (Kd.V_elderB (by (with_reducible repeat (first | apply Kd.V_alloc | apply Kd.V_drewN | apply Kd.V_drew)); exact HL170_2.out) gb171 (Nat.le_of_eq hg.symm)) hb); replace HR170_2 := ak (Kd.C_below (by repeat (first | (with_reducible exact HR170_2.out) | (with_reducible refine Kd.C_alloc ?_ _) | (with_reducible refine Kd.C_drewN ?_ _) | (with_reducible refine Kd.C_drew ?_) | exact HR170_2.out)) hb); have BK171 := ak hbox; have GW171 := gs hg bl; have GE171 := gs hg bl; replace HB := ak (below_step bl hb); clear hb hbox hg; obtain ⟨hcz12_0, hcz12_1, hcz12_2, hfz12_0, hfz12_1, hfz12_2⟩ := cz3 BK171))
             go_roundg k1
             case measure => have := HK1.out; omega
             case rel => exact ⟨(wrap64 (x11_1 + 1)), es, H', ⟨kp⟩, ⟨by (with_reducible repeat (first | apply Kd.V_alloc | apply Kd.V_drewN | apply Kd.V_drew)); exact Kd.V_mono (Kd.V_far (p := ⟨gb171, 2, none⟩) (Kd.V_far (p := ⟨gb171, 1, none⟩) (Kd.V_far (p := ⟨gb171, 0, none⟩) (Kd.V_mono HO_9.out (fun k_ hk => (⟨hk, hk.2⟩ : _ ∧ k_ ≠ gb171))) (fun _ hk => hk.2) (.string ((rd_T81 l0 x11_1).f0))) (fun _ hk => hk.2) (.string ((rd_T81 l0 x11_1).f1))) (fun _ hk => hk.2) (.slice A170_2 ((rd_T81 l0 x11_1).f2).length c170_2)) (fun _ hk => hk.1.1)⟩, ⟨bl1 GE171⟩⟩
         · rw [if_neg c7] at H
           have c7b0 : (((rd_T81 l0 x11_1).f0).toList == a1.toList) = false := beq_eq_false_iff_ne.mpr c7
           have c7b1 : (((rd_T81 l0 x11_1).f0).toList != a1.toList) = true := bne_iff_ne.mpr c7
           have H' := Aside0.mk H
           clear H
           have p170 : 0 ≤ (x11_1 : Int) := of_decide_eq_true am
           have q170 : x11_1 < (l0.length : Int) := of_decide_eq_true am
           obtain ⟨ad170, A170_2, c170_2, e170, hx170_0, hx170_1, hx170_2, hl170_2, hi170_2⟩ := at_T81 (Kd.V_reads' HO_9.out).2.2 x11_1 p170 q170
           cases e170
           obtain ⟨ce170, hce170, hMe170, hcc170⟩ := Kd.V_get HO_9.out z81 x11_1 p170 (by first | exact q170 | exact of_decide_eq_true am | (have e_ := (Kd.V_reads' HO_9.out).1; omega))
           obtain ⟨ua170_2, uc170_2, rfl, ul170_2, ge170_2⟩ := k81_openF hMe170
           have hv170_2 := hcc170 2 _ rfl
           rw [add_field _ _ 2 (by omega)] at hv170_2
           replace hv170_2 := Option.some.inj (hv170_2.symm.trans hx170_2)
           injection hv170_2 with hva_ hvn_ hvc_
           rw [hva_] at ge170_2
           rw [hvc_] at ul170_2
           have HL170_2 := Aside0.mk (show Kd.V k37 37 _ w.heap.size _ _ ((rd_T81 l0 x11_1).f2) from Kd.V_mk ul170_2 ge170_2)
           clear hva_ hvn_ hvc_ ge170_2 ul170_2
           clear hcc170 hce170
           have HR170_2 := Aside0.mk hi170_2
           have HC170_2 := Aside0.mk hl170_2
           clear hi170_2 hl170_2
           replace p170 := eq_true p170
           replace q170 := eq_true q170
           go_wp2_with (first | ((with_reducible refine gate_dst (N := 8) rfl ?_); refine bx 8 #[.string (⟨#[]⟩ : ByteArray), .string (⟨#[]⟩ : ByteArray), .slice none 0 0] 81 ?_; intro gb171 hg w13 hbox hb; replace HO_9 := ak (Kd.V_below (Kd.V_elderB (by (with_reducible repeat (first | apply Kd.V_alloc | apply Kd.V_drewN | apply Kd.V_drew)); exact HO_9.out) gb171 (Nat.le_of_eq hg.symm)) hb); replace HL170_2 := ak (Kd.V_below (Kd.V_elderB (by (with_reducible repeat (first | apply Kd.V_alloc | apply Kd.V_drewN | apply Kd.V_drew)); exact HL170_2.out) gb171 (Nat.le_of_eq hg.symm)) hb); replace HR170_2 := ak (Kd.C_below (by repeat (first | (with_reducible exact HR170_2.out) | (with_reducible refine Kd.C_alloc ?_ _) | (with_reducible refine Kd.C_drewN ?_ _) | (with_reducible refine Kd.C_drew ?_) | exact HR170_2.out)) hb); have BK171 := ak hbox; have GW171 := gs hg bl; have GE171 := gs hg bl; replace HB := ak (below_step bl hb); clear hb hbox hg; obtain ⟨hcz14_0, hcz14_1, hcz14_2, hfz14_0, hfz14_1, hfz14_2⟩ := cz3 BK171))
           go_roundg k1
           case measure => have := HK1.out; omega
           case rel => exact ⟨(wrap64 (x11_1 + 1)), es, H', ⟨kp⟩, ⟨by (with_reducible repeat (first | apply Kd.V_alloc | apply Kd.V_drewN | apply Kd.V_drew)); exact Kd.V_mono (Kd.V_far (p := ⟨gb171, 2, none⟩) (Kd.V_far (p := ⟨gb171, 1, none⟩) (Kd.V_far (p := ⟨gb171, 0, none⟩) (Kd.V_mono HO_9.out (fun k_ hk => (⟨hk, hk.2⟩ : _ ∧ k_ ≠ gb171))) (fun _ hk => hk.2) (.string ((rd_T81 l0 x11_1).f0))) (fun _ hk => hk.2) (.string ((rd_T81 l0 x11_1).f1))) (fun _ hk => hk.2) (.slice A170_2 ((rd_T81 l0 x11_1).f2).length c170_2)) (fun _ hk => hk.1.1)⟩, ⟨bl1 GE171⟩⟩
       · rw [if_neg c6] at H
         exact absurd H (by simp)
     · rw [if_neg c5] at H
       exact absurd H (by simp)
   · rw [if_neg c4] at H
     have c4b0 : decide (x11_1 < (l0.length : Int)) = false := decide_eq_false c4
     clear c4
     obtain rfl := Option.some.inj H
     go_wp2
     go_ret
     exact ⟨.slice none 0 0, ew, Kd.V_nil _ _ _ _ _, bl⟩

end Go.Proofs.Ytplekidnlofioaa.Q
namespace Go.Proofs.Ytplekidnlofioaa.Q
open Go.RowKit Go.Proofs.YtplekidnlofioaaW.PrintWords Go.Proofs.YtplekidnlofioaaW.PrintLast Go.Proofs.YtplekidnlofioaaW.PrintMore
attribute [local go_sem] max2_int min2_int max_two min_two max_three min_three max_four min_four   -- for this text's walks alone
set_option linter.unusedVariables false
set_option linter.unusedSimpArgs false

/-! ### impl_SeriesOf: function 15 -/
def impl_SeriesOf.f (k : Nat) (l0 : List (S81)) (a1 : ByteArray) (a2 : ByteArray) : Option ((List (S37)) × Bool) := (impl_StoreOk.f k l0).bind fun t172 => (if t172 = true then ((impl_pointsOf.f k l0 a1 a2).bind fun t173 => ((slices_Clone_impl_Point_impl_Point.f t173).bind fun t176 => (some (t176, decide ((t176.length : Int) > 0))))) else (some (([] : List (S37)), false)))
theorem impl_SeriesOf.mono : ∀ a0 a1 a2 k, LeO (impl_SeriesOf.f k a0 a1 a2) (impl_SeriesOf.f (k + 1) a0 a1 a2) := by
 intro a0 a1 a2 k
 unfold impl_SeriesOf.f
 repeat' first
  | (with_reducible exact impl_StoreOk.mono _ _)
  | (with_reducible exact impl_pointsOf.mono _ _ _ _)
  | (with_reducible exact LeO.refl _)
  | (with_reducible exact LeO.none _)
  | (with_reducible refine LeO.ite ?_ ?_)
  | (with_reducible refine LeO.bind ?_ (fun _ => ?_))
  | exact impl_StoreOk.mono _ _
  | exact impl_pointsOf.mono _ _ _ _
  | exact LeO.none _
  | refine LeO.ite ?_ ?_
  | refine LeO.bind ?_ (fun _ => ?_)
set_option maxHeartbeats 8000000 in
set_option maxRecDepth 100000 in
theorem impl_SeriesOf.calls (k : Nat) (A0 : Option Addr) (c0 : Nat) (l0 : List (S81)) (a1 : ByteArray) (a2 : ByteArray) (r1 : List (S37)) (r2 : Bool) (w : World) (hr0 : Kd.C k81 w A0 l0.length l0) (hc0 : l0.length ≤ c0) (h : impl_SeriesOf.f k l0 a1 a2 = some (r1, r2)) :
 Calls Try.prog 15 #[.slice A0 l0.length c0, .string a1, .string a2] w fun e w' => ∃ v0_ : Value, e = .returned (.tuple #[v0_, .bool r2]) ∧ Kd.R k37 37 w' w.heap.size (fun _ => True) v0_ r1 ∧ Below w.heap.size w w' := by
 have HR0 := Aside0.mk hr0
 have HC0 := Aside0.mk hc0
 clear hr0 hc0
 have HB := Aside0.mk (Below.refl w.heap.size w)
 have H : ((impl_StoreOk.f k l0).bind fun t172 => (if t172 = true then ((impl_pointsOf.f k l0 a1 a2).bind fun t173 => ((slices_Clone_impl_Point_impl_Point.f t173).bind fun t176 => (some (t176, decide ((t176.length : Int) > 0))))) else (some (([] : List (S37)), false)))) = some (r1, r2) := h
 clear h
 obtain ⟨t172, A40, H⟩ := bo H
 have A4 := Aside0.mk A40
 clear A40
 by_cases c5 : t172 = true
 · subst c5
   replace H := iT H
   obtain ⟨t173, A60, H⟩ := bo H
   have A6 := Aside0.mk A60
   clear A60
   obtain ⟨t176, A70, H⟩ := bo H
   have A7 := Aside0.mk A70
   clear A70
   simp only [Option.some.injEq, Prod.mk.injEq] at H
   obtain ⟨rfl, rfl⟩ := H
   go_enter Try.func15, Try.ntmps15
   go_wp2_with (first | ((with_reducible refine gate_callee (f := 49) rfl ?_); refine gl (some 10) Try.func49 #[.slice A0 l0.length c0] ?_; (with_reducible refine (impl_StoreOk.calls k _ _ l0 true _ ?side1 ?side2 A4.out).mono ?_); (case side1 => repeat (first | exact HR0.out | (with_reducible refine Kd.C_alloc ?_ _) | (with_reducible refine Kd.C_drewN ?_ _) | (with_reducible refine Kd.C_drew ?_))); (case side2 => exact HC0.out); rintro e w8 ⟨rfl, hb⟩; refine ⟨_, rfl, ?_⟩; replace HB := ak (below_step bl hb); (try clear hb); (try clear hb2); (try clear hk); (try clear hi)) | ((with_reducible refine gate_callee (f := 67) rfl ?_); refine gl (some 15) Try.func67 #[.slice A0 l0.length c0, .string a1, .string a2] ?_; (with_reducible refine (impl_pointsOf.calls k (fun k_ => k_ < w.heap.size) _ _ l0 a1 a2 t173 _ ?side1 A6.out).mono ?_); (case side1 => exact Kd.V_mk HC0.out (Kd.F_below (Kd.C_F k81_heap HR0.out) bl)); rintro e w9 ⟨v174, rfl, ho0, hb⟩; refine ⟨_, rfl, ?_⟩; have HO175 := ak (Kd.V_lower (Kd.V_mono (ok' := fun k_ => True) ho0 (fun k_ hk_ => trivial)) (below_size bl)); replace HB := ak (below_step bl hb); (try clear hb); (try clear hb2); (try clear hk); (try clear hi); (try clear ho0); obtain ⟨Ao10, co10, eo10⟩ := Kd.V_slice HO175.out; subst eo10) | ((with_reducible refine gate_callee (f := 66) rfl ?_); refine gl (some 16) Try.func66 #[.slice Ao10 t173.length co10] ?_; (with_reducible refine (slices_Clone_impl_Point_impl_Point.calls _ _ t173 t176 _ ?side1 ?side2 A7.out).mono ?_); (case side1 => repeat (first | exact (Kd.V_reads' HO175.out).2.2 | (with_reducible refine Kd.C_alloc ?_ _) | (with_reducible refine Kd.C_drewN ?_ _) | (with_reducible refine Kd.C_drew ?_))); (case side2 => exact (Kd.V_reads' HO175.out).2.1); rintro e w11 ⟨v177, rfl, ho0, hb⟩; refine ⟨_, rfl, ?_⟩; replace HO175 := ak (Kd.V_elder' (by (with_reducible repeat (first | apply Kd.V_alloc | apply Kd.V_drewN | apply Kd.V_drew)); exact HO175.out) (Kd.R_base ho0) hb); have HO178 := ak (Kd.R_lower ho0 (below_size bl)); replace HB := ak (below_step bl hb); (try clear hb); (try clear hb2); (try clear hk); (try clear hi); (try clear ho0); obtain ⟨Ao12, co12, eo12⟩ := Kd.R_slice HO178.out; subst eo12))
   go_ret2
   exact ⟨_, ew, kr HO178, bl⟩
 · replace c5 := Bool.eq_false_iff.mpr c5
   subst c5
   replace H := iF H
   simp only [Option.some.injEq, Prod.mk.injEq] at H
   obtain ⟨rfl, rfl⟩ := H
   go_enter Try.func15, Try.ntmps15
   go_wp2_with (first | ((with_reducible refine gate_callee (f := 49) rfl ?_); refine gl (some 10) Try.func49 #[.slice A0 l0.length c0] ?_; (with_reducible refine (impl_StoreOk.calls k _ _ l0 false _ ?side1 ?side2 A4.out).mono ?_); (case side1 => repeat (first | exact HR0.out | (with_reducible refine Kd.C_alloc ?_ _) | (with_reducible refine Kd.C_drewN ?_ _) | (with_reducible refine Kd.C_drew ?_))); (case side2 => exact HC0.out); rintro e w13 ⟨rfl, hb⟩; refine ⟨_, rfl, ?_⟩; replace HB := ak (below_step bl hb); (try clear hb); (try clear hb2); (try clear hk); (try clear hi)))
   go_ret2
   exact ⟨_, ew, by first | exact Kd.R_nil _ _ _ _ _ | exact Kd.N_nil _ _ _ _ _ | exact Kd.V_nil _ _ _ _ _ | exact Kd.Q_nil _ _ _ _ _ | exact Kd.S_nil _ _ _ _ _, bl⟩

end Go.Proofs.Ytplekidnlofioaa.Q
namespace Go.Proofs.Ytplekidnlofioaa.Q
open Go.RowKit Go.Proofs.YtplekidnlofioaaW.PrintWords Go.Proofs.YtplekidnlofioaaW.PrintLast Go.Proofs.YtplekidnlofioaaW.PrintMore
attribute [local go_sem] max2_int min2_int max_two min_two max_three min_three max_four min_four   -- for this text's walks alone
set_option linter.unusedVariables false
set_option linter.unusedSimpArgs false

/-! ### impl_isValue: function 159 -/
def impl_isValue.f (a0 : Int) : Option (Bool) := (impl_in.f a0 (-1000000000) 1000000000).bind fun t851 => (some t851)
set_option maxHeartbeats 8000000 in
set_option maxRecDepth 100000 in
theorem impl_isValue.calls (a0 : Int) (r : Bool) (w : World) (h : impl_isValue.f a0 = some r) :
 Calls Try.prog 159 #[.int .i64 a0] w fun e w' => e = .returned (.bool r) ∧ Drawn0 w w' := by
 have H : ((impl_in.f a0 (-1000000000) 1000000000).bind fun t851 => (some t851)) = some r := h
 clear h
 obtain ⟨t851, A20, H⟩ := bo H
 have A2 := Aside0.mk A20
 clear A20
 obtain rfl := Option.some.inj H
 go_enter Try.func159, Try.ntmps159
 go_wp2_with (first | ((with_reducible refine gate_callee (f := 124) rfl ?_); refine gl (some 4) Try.func124 #[.int .i64 a0, .int .i64 (-1000000000), .int .i64 1000000000] ?_; (with_reducible refine (impl_in.calls a0 (-1000000000) 1000000000 t851 _ A2.out).mono ?_); rintro e w' ⟨rfl, ⟨nd, rfl⟩⟩; refine ⟨_, rfl, ?_⟩))
 go_ret
 exact ⟨es, dr0⟩

end Go.Proofs.Ytplekidnlofioaa.Q
namespace Go.Proofs.Ytplekidnlofioaa.Q
open Go.RowKit Go.Proofs.YtplekidnlofioaaW.PrintWords Go.Proofs.YtplekidnlofioaaW.PrintLast Go.Proofs.YtplekidnlofioaaW.PrintMore
attribute [local go_sem] max2_int min2_int max_two min_two max_three min_three max_four min_four   -- for this text's walks alone
set_option linter.unusedVariables false
set_option linter.unusedSimpArgs false

/-! ### impl_CutValue: function 160 -/
def impl_CutValue.f (a0 : Int) : Option (Int × Bool) := some (mn (mx a0 (-1000000000)) 1000000000, ((mn (mx a0 (-1000000000)) 1000000000) != a0))
set_option maxHeartbeats 8000000 in
set_option maxRecDepth 100000 in
theorem impl_CutValue.calls (a0 : Int) (r1 : Int) (r2 : Bool) (w : World) (h : impl_CutValue.f a0 = some (r1, r2)) :
 Calls Try.prog 160 #[.int .i64 a0] w fun e w' => e = .returned (.tuple #[.int .i64 r1, .bool r2]) ∧ Below w.heap.size w w' := by
 have HB := Aside0.mk (Below.refl w.heap.size w)
 have H : (some (mn (mx a0 (-1000000000)) 1000000000, ((mn (mx a0 (-1000000000)) 1000000000) != a0))) = some (r1, r2) := h
 clear h
 obtain ⟨ji2, hji2⟩ : ∃ j_ : Int, (mx a0 (-1000000000)) = j_ := ⟨_, rfl⟩
 replace H : (some (mn (ji2) 1000000000, ((mn (ji2) 1000000000) != a0))) = some (r1, r2) := by first | (rw [hji2] at H; exact H) | (simp only [hji2] at H ⊢; exact H)
 have hji2_ : (if a0 < (-1000000000) then (-1000000000) else a0) = ji2 := hji2
 obtain ⟨ji3, hji3⟩ : ∃ j_ : Int, (mn (ji2) 1000000000) = j_ := ⟨_, rfl⟩
 replace H : (some (ji3, ((ji3) != a0))) = some (r1, r2) := by first | (rw [hji3] at H; exact H) | (simp only [hji3] at H ⊢; exact H)
 have hji3_ : (if 1000000000 < (ji2) then 1000000000 else (ji2)) = ji3 := hji3
 simp only [Option.some.injEq, Prod.mk.injEq] at H
 obtain ⟨rfl, rfl⟩ := H
 go_enter Try.func160, Try.ntmps160
 go_wp2
 go_ret2
 exact ⟨by first | rfl | (simp [errW_none, errW_some] <;> rfl) | (simp only [← hji2, ← hji3]; first | rfl | (simp [errW_none, errW_some] <;> rfl)) | (simp [*, errW_none, errW_some] <;> rfl), bl⟩

end Go.Proofs.Ytplekidnlofioaa.Q
namespace Go.Proofs.Ytplekidnlofioaa.Q
open Go.RowKit Go.Proofs.YtplekidnlofioaaW.PrintWords Go.Proofs.YtplekidnlofioaaW.PrintLast Go.Proofs.YtplekidnlofioaaW.PrintMore
attribute [local go_sem] max2_int min2_int max_two min_two max_three min_three max_four min_four   -- for this text's walks alone
set_option linter.unusedVariables false
set_option linter.unusedSimpArgs false

/-! ### impl_AddValues: function 106 -/
def impl_AddValues.l0 : Nat → Int → Bool → List Int → Int → Int → Option (Int × Bool)
 | 0, _, _, _, _, _ => none
 | k + 1, x4, x5, x13, x14, x15 => if x15 < x14 then (if 0 ≤ x15 then (if x15 < (x13.length : Int) then ((impl_isValue.f (rd x13 x15)).bind fun t853 => (if t853 = true then ((impl_CutValue.f (wrap64 (x4 + (rd x13 x15)))).bind fun bt854 => (if x5 = true then (impl_AddValues.l0 k bt854.1 true x13 x14 (wrap64 (x15 + 1))) else (impl_AddValues.l0 k bt854.1 bt854.2 x13 x14 (wrap64 (x15 + 1))))) else (some (0, true)))) else (none)) else (none)) else (some (x4, x5))
def impl_AddValues.f (k : Nat) (l0 : List Int) : Option (Int × Bool) := if (l0.length : Int) > 300 then (some (0, true)) else (impl_AddValues.l0 k 0 false l0 (l0.length : Int) 0)
theorem impl_AddValues.mono_l : ∀ k, (∀ y0 y1 y2 y3 y4, LeO (impl_AddValues.l0 k y0 y1 y2 y3 y4) (impl_AddValues.l0 (k + 1) y0 y1 y2 y3 y4))
 | 0 => fun _ _ _ _ _ r h => by simp [impl_AddValues.l0] at h
 | k + 1 => by
  have ih0 := impl_AddValues.mono_l k
  · intro y0 y1 y2 y3 y4
    unfold impl_AddValues.l0
    repeat' first
    | (with_reducible exact ih0 _ _ _ _ _)
    | (with_reducible exact LeO.refl _)
    | (with_reducible exact LeO.none _)
    | (with_reducible refine LeO.ite ?_ ?_)
    | (with_reducible refine LeO.bind ?_ (fun _ => ?_))
    | exact ih0 _ _ _ _ _
    | exact LeO.none _
    | refine LeO.ite ?_ ?_
    | refine LeO.bind ?_ (fun _ => ?_)
theorem impl_AddValues.mono : ∀ a0 k, LeO (impl_AddValues.f k a0) (impl_AddValues.f (k + 1) a0) := by
 intro a0 k
 have ih0 := impl_AddValues.mono_l k
 unfold impl_AddValues.f
 repeat' first
  | (with_reducible exact ih0 _ _ _ _ _)
  | (with_reducible exact LeO.refl _)
  | (with_reducible exact LeO.none _)
  | (with_reducible refine LeO.ite ?_ ?_)
  | (with_reducible refine LeO.bind ?_ (fun _ => ?_))
  | exact ih0 _ _ _ _ _
  | exact LeO.none _
  | refine LeO.ite ?_ ?_
  | refine LeO.bind ?_ (fun _ => ?_)
set_option maxHeartbeats 8000000 in
set_option maxRecDepth 100000 in
theorem impl_AddValues.calls (k : Nat) (A0 : Option Addr) (c0 : Nat) (l0 : List Int) (r1 : Int) (r2 : Bool) (w : World) (hr0 : Kd.C (Kd.int .i64) w A0 l0.length l0) (hc0 : l0.length ≤ c0) (h : impl_AddValues.f k l0 = some (r1, r2)) :
 Calls Try.prog 106 #[.slice A0 l0.length c0] w fun e w' => e = .returned (.tuple #[.int .i64 r1, .bool r2]) ∧ Below w.heap.size w w' := by
 have HR0 := Aside0.mk hr0
 have HC0 := Aside0.mk hc0
 clear hr0 hc0
 have HB := Aside0.mk (Below.refl w.heap.size w)
 have H : (if (l0.length : Int) > 300 then (some (0, true)) else (impl_AddValues.l0 k 0 false l0 (l0.length : Int) 0)) = some (r1, r2) := h
 clear h
 by_cases c2 : (l0.length : Int) > 300
 · rw [if_pos c2] at H
   have c2b0 : decide (300 < (l0.length : Int)) = true := decide_eq_true c2
   have c2b1 : decide (300 < l0.length) = true := decide_eq_true (by omega)
   clear c2
   simp only [Option.some.injEq, Prod.mk.injEq] at H
   obtain ⟨rfl, rfl⟩ := H
   go_enter Try.func106, Try.ntmps106
   go_wp2
   go_ret2
   exact ⟨ew, bl⟩
 · rw [if_neg c2] at H
   have c2b0 : decide (300 < (l0.length : Int)) = false := decide_eq_false c2
   have c2b1 : decide (300 < l0.length) = false := decide_eq_false (by omega)
   clear c2
   have H' := Aside0.mk H
   clear H
   go_enter Try.func106, Try.ntmps106
   go_wp2
   go_loopg [4, 5, 15] k (fun kq v4 v5 v15 w' => ∃ (x4_1 : Int) (x5_1 : Bool) (x15_1 : Int), v4 = .int .i64 x4_1 ∧ v5 = .bool x5_1 ∧ v15 = .int .i64 x15_1 ∧ Aside0 (impl_AddValues.l0 kq x4_1 x5_1 l0 (l0.length : Int) x15_1 = some (r1, r2)) ∧ Aside0 (kq ≤ k) ∧ Aside0 (Below w.heap.size w w'))
   case atStart => exact ⟨(0), (false), (0), es, es, es, H', ⟨Nat.le_refl _⟩, ⟨bl⟩⟩
   case round =>
    clear H'
    try clear c1
    try clear c2
    try clear c2b0
    try clear c2b1
    try clear p2
    obtain ⟨x4_1, x5_1, x15_1, rfl, rfl, rfl, HA, HK1, HB⟩ := hrel
    cases gk with
    | zero => exact absurd HA.out (by simp [impl_AddValues.l0])
    | succ k1 =>
     have H := HA.out
     clear HA
     simp only [impl_AddValues.l0] at H
     by_cases c3 : x15_1 < (l0.length : Int)
     · rw [if_pos c3] at H
       have c3b0 : decide (x15_1 < (l0.length : Int)) = true := decide_eq_true c3
       clear c3
       by_cases c4 : 0 ≤ x15_1
       · rw [if_pos c4] at H
         have c4b0 : decide (0 ≤ x15_1) = true := decide_eq_true c4
         clear c4
         by_cases c5 : x15_1 < (l0.length : Int)
         · rw [if_pos c5] at H
           have c5b0 : decide (x15_1 < (l0.length : Int)) = true := decide_eq_true c5
           clear c5
           obtain ⟨t853, A60, H⟩ := bo H
           have A6 := Aside0.mk A60
           clear A60
           by_cases c7 : t853 = true
           · subst c7
             replace H := iT H
             replace H := Option.bind_eq_some_iff.mp H
             obtain ⟨⟨t854, t855⟩, A80, H⟩ := H
             replace H : (if x5_1 = true then (impl_AddValues.l0 k1 t854 true l0 (l0.length : Int) (wrap64 (x15_1 + 1))) else (impl_AddValues.l0 k1 t854 t855 l0 (l0.length : Int) (wrap64 (x15_1 + 1)))) = some (r1, r2) := H
             have A8 := Aside0.mk A80
             clear A80
             by_cases c9 : x5_1 = true
             · subst c9
               replace H := iT H
               have H' := Aside0.mk H
               clear H
               have p852 : 0 ≤ (x15_1 : Int) := of_decide_eq_true am
               have q852 : x15_1 < (l0.length : Int) := of_decide_eq_true am
               obtain ⟨ad852, e852, hx852_0⟩ := Kd.at_int HR0.out x15_1 p852 q852
               cases e852
               replace hx852_0 := cw hx852_0
               replace p852 := eq_true p852
               replace q852 := eq_true q852
               go_wp2_with (first | ((with_reducible refine gate_callee (f := 159) rfl ?_); refine gl (some 20) Try.func159 #[.int .i64 (rd l0 x15_1)] ?_; (with_reducible refine (impl_isValue.calls (rd l0 x15_1) true _ A6.out).mono ?_); rintro e w' ⟨rfl, ⟨nd, rfl⟩⟩; refine ⟨_, rfl, ?_⟩) | ((with_reducible refine gate_callee (f := 160) rfl ?_); refine gl (some 26) Try.func160 #[.int .i64 (wrap64 (x4_1 + (rd l0 x15_1)))] ?_; (with_reducible refine (impl_CutValue.calls (wrap64 (x4_1 + (rd l0 x15_1))) t854 t855 _ A8.out).mono ?_); rintro e w10 ⟨rfl, hb⟩; refine ⟨_, rfl, ?_⟩; replace HB := ak (below_step bl hb); (try clear hb); (try clear hb2); (try clear hk); (try clear hi)))
               go_roundg k1
               case measure => have := HK1.out; omega
               case rel => exact ⟨(t854), (true), (wrap64 (x15_1 + 1)), es, es, es, H', ⟨kp⟩, ⟨bl⟩⟩
             · replace c9 := Bool.eq_false_iff.mpr c9
               subst c9
               replace H := iF H
               have H' := Aside0.mk H
               clear H
               have p852 : 0 ≤ (x15_1 : Int) := of_decide_eq_true am
               have q852 : x15_1 < (l0.length : Int) := of_decide_eq_true am
               obtain ⟨ad852, e852, hx852_0⟩ := Kd.at_int HR0.out x15_1 p852 q852
               cases e852
               replace hx852_0 := cw hx852_0
               replace p852 := eq_true p852
               replace q852 := eq_true q852
               go_wp2_with (first | ((with_reducible refine gate_callee (f := 159) rfl ?_); refine gl (some 20) Try.func159 #[.int .i64 (rd l0 x15_1)] ?_; (with_reducible refine (impl_isValue.calls (rd l0 x15_1) true _ A6.out).mono ?_); rintro e w' ⟨rfl, ⟨nd, rfl⟩⟩; refine ⟨_, rfl, ?_⟩) | ((with_reducible refine gate_callee (f := 160) rfl ?_); refine gl (some 26) Try.func160 #[.int .i64 (wrap64 (x4_1 + (rd l0 x15_1)))] ?_; (with_reducible refine (impl_CutValue.calls (wrap64 (x4_1 + (rd l0 x15_1))) t854 t855 _ A8.out).mono ?_); rintro e w11 ⟨rfl, hb⟩; refine ⟨_, rfl, ?_⟩; replace HB := ak (below_step bl hb); (try clear hb); (try clear hb2); (try clear hk); (try clear hi)))
               go_roundg k1
               case measure => have := HK1.out; omega
               case rel => exact ⟨(t854), (t855), (wrap64 (x15_1 + 1)), es, es, es, H', ⟨kp⟩, ⟨bl⟩⟩
           · replace c7 := Bool.eq_false_iff.mpr c7
             subst c7
             replace H := iF H
             simp only [Option.some.injEq, Prod.mk.injEq] at H
             obtain ⟨rfl, rfl⟩ := H
             have p852 : 0 ≤ (x15_1 : Int) := of_decide_eq_true am
             have q852 : x15_1 < (l0.length : Int) := of_decide_eq_true am
             obtain ⟨ad852, e852, hx852_0⟩ := Kd.at_int HR0.out x15_1 p852 q852
             cases e852
             replace hx852_0 := cw hx852_0
             replace p852 := eq_true p852
             replace q852 := eq_true q852
             go_wp2_with (first | ((with_reducible refine gate_callee (f := 159) rfl ?_); refine gl (some 20) Try.func159 #[.int .i64 (rd l0 x15_1)] ?_; (with_reducible refine (impl_isValue.calls (rd l0 x15_1) false _ A6.out).mono ?_); rintro e w' ⟨rfl, ⟨nd, rfl⟩⟩; refine ⟨_, rfl, ?_⟩))
             go_ret2
             exact ⟨ew, bl⟩
         · rw [if_neg c5] at H
           exact absurd H (by simp)
       · rw [if_neg c4] at H
         exact absurd H (by simp)
     · rw [if_neg c3] at H
       have c3b0 : decide (x15_1 < (l0.length : Int)) = false := decide_eq_false c3
       clear c3
       simp only [Option.some.injEq, Prod.mk.injEq] at H
       obtain ⟨rfl, rfl⟩ := H
       go_wp2
       go_ret2
       exact ⟨ew, bl⟩

end Go.Proofs.Ytplekidnlofioaa.Q
namespace Go.Proofs.Ytplekidnlofioaa.Q
open Go.RowKit Go.Proofs.YtplekidnlofioaaW.PrintWords Go.Proofs.YtplekidnlofioaaW.PrintLast Go.Proofs.YtplekidnlofioaaW.PrintMore
attribute [local go_sem] max2_int min2_int max_two min_two max_three min_three max_four min_four   -- for this text's walks alone
set_option linter.unusedVariables false
set_option linter.unusedSimpArgs false

/-! ### impl_FloorDiv: function 185 -/
def impl_FloorDiv.f (a0 : Int) (a1 : Int) : Option (Int) := if a1 < 1 then (some 0) else (if a1 = 0 then (none) else (if (Int.tmod a0 a1) < 0 then (some (wrap64 ((wrap64 (Int.tdiv a0 a1)) - 1))) else (some (wrap64 (Int.tdiv a0 a1)))))
set_option maxHeartbeats 8000000 in
set_option maxRecDepth 100000 in
theorem impl_FloorDiv.calls (a0 : Int) (a1 : Int) (r : Int) (w : World) (h : impl_FloorDiv.f a0 a1 = some r) :
 Calls Try.prog 185 #[.int .i64 a0, .int .i64 a1] w fun e w' => e = .returned (.int .i64 r) ∧ Drawn0 w w' := by
 have H : (if a1 < 1 then (some 0) else (if a1 = 0 then (none) else (if (Int.tmod a0 a1) < 0 then (some (wrap64 ((wrap64 (Int.tdiv a0 a1)) - 1))) else (some (wrap64 (Int.tdiv a0 a1)))))) = some r := h
 clear h
 by_cases c3 : a1 < 1
 · rw [if_pos c3] at H
   have c3b0 : decide (a1 < 1) = true := decide_eq_true c3
   clear c3
   obtain rfl := Option.some.inj H
   go_enter Try.func185, Try.ntmps185
   go_wp2
   go_ret
   exact ⟨es, dr0⟩
 · rw [if_neg c3] at H
   have c3b0 : decide (a1 < 1) = false := decide_eq_false c3
   clear c3
   by_cases c4 : a1 = 0
   · rw [if_pos c4] at H
     exact absurd H (by simp)
   · rw [if_neg c4] at H
     have c4b0 : (a1 == 0) = false := beq_eq_false_iff_ne.mpr c4
     have c4b1 : (a1 != 0) = true := bne_iff_ne.mpr c4
     by_cases c5 : (Int.tmod a0 a1) < 0
     · rw [if_pos c5] at H
       have c5b0 : decide ((Int.tmod a0 a1) < 0) = true := decide_eq_true c5
       clear c5
       obtain rfl := Option.some.inj H
       go_enter Try.func185, Try.ntmps185
       go_wp2
       go_ret
       exact ⟨es, dr0⟩
     · rw [if_neg c5] at H
       have c5b0 : decide ((Int.tmod a0 a1) < 0) = false := decide_eq_false c5
       clear c5
       obtain rfl := Option.some.inj H
       go_enter Try.func185, Try.ntmps185
       go_wp2
       go_ret
       exact ⟨es, dr0⟩

end Go.Proofs.Ytplekidnlofioaa.Q
namespace Go.Proofs.Ytplekidnlofioaa.Q
open Go.RowKit Go.Proofs.YtplekidnlofioaaW.PrintWords Go.Proofs.YtplekidnlofioaaW.PrintLast Go.Proofs.YtplekidnlofioaaW.PrintMore
attribute [local go_sem] max2_int min2_int max_two min_two max_three min_three max_four min_four   -- for this text's walks alone
set_option linter.unusedVariables false
set_option linter.unusedSimpArgs false

/-! ### impl_MeanOf: function 158 -/
def impl_MeanOf.f (k : Nat) (l0 : List Int) : Option (Int × Bool) := (impl_AddValues.f k l0).bind fun bt856 => (if (l0.length : Int) = 0 then (some (0, false)) else (if bt856.2 = true then (some (0, false)) else ((impl_FloorDiv.f bt856.1 (l0.length : Int)).bind fun t858 => (some (t858, true)))))
theorem impl_MeanOf.mono : ∀ a0 k, LeO (impl_MeanOf.f k a0) (impl_MeanOf.f (k + 1) a0) := by
 intro a0 k
 unfold impl_MeanOf.f
 repeat' first
  | (with_reducible exact impl_AddValues.mono _ _)
  | (with_reducible exact LeO.refl _)
  | (with_reducible exact LeO.none _)
  | (with_reducible refine LeO.ite ?_ ?_)
  | (with_reducible refine LeO.bind ?_ (fun _ => ?_))
  | exact impl_AddValues.mono _ _
  | exact LeO.none _
  | refine LeO.ite ?_ ?_
  | refine LeO.bind ?_ (fun _ => ?_)
set_option maxHeartbeats 8000000 in
set_option maxRecDepth 100000 in
theorem impl_MeanOf.calls (k : Nat) (A0 : Option Addr) (c0 : Nat) (l0 : List Int) (r1 : Int) (r2 : Bool) (w : World) (hr0 : Kd.C (Kd.int .i64) w A0 l0.length l0) (hc0 : l0.length ≤ c0) (h : impl_MeanOf.f k l0 = some (r1, r2)) :
 Calls Try.prog 158 #[.slice A0 l0.length c0] w fun e w' => e = .returned (.tuple #[.int .i64 r1, .bool r2]) ∧ Below w.heap.size w w' := by
 have HR0 := Aside0.mk hr0
 have HC0 := Aside0.mk hc0
 clear hr0 hc0
 have HB := Aside0.mk (Below.refl w.heap.size w)
 have H : ((impl_AddValues.f k l0).bind fun bt856 => (if (l0.length : Int) = 0 then (some (0, false)) else (if bt856.2 = true then (some (0, false)) else ((impl_FloorDiv.f bt856.1 (l0.length : Int)).bind fun t858 => (some (t858, true)))))) = some (r1, r2) := h
 clear h
 replace H := Option.bind_eq_some_iff.mp H
 obtain ⟨⟨t856, t857⟩, A20, H⟩ := H
 replace H : (if (l0.length : Int) = 0 then (some (0, false)) else (if t857 = true then (some (0, false)) else ((impl_FloorDiv.f t856 (l0.length : Int)).bind fun t858 => (some (t858, true))))) = some (r1, r2) := H
 have A2 := Aside0.mk A20
 clear A20
 by_cases c3 : (l0.length : Int) = 0
 · rw [if_pos c3] at H
   have c3b0 : ((l0.length : Int) == 0) = true := beq_iff_eq.mpr c3
   have c3b1 : ((l0.length : Int) != 0) = false := bne_eq_false_iff_eq.mpr c3
   clear c3
   simp only [Option.some.injEq, Prod.mk.injEq] at H
   obtain ⟨rfl, rfl⟩ := H
   go_enter Try.func158, Try.ntmps158
   go_wp2_with (first | ((with_reducible refine gate_callee (f := 106) rfl ?_); refine gl (some 8) Try.func106 #[.slice A0 l0.length c0] ?_; (with_reducible refine (impl_AddValues.calls k _ _ l0 t856 t857 _ ?side1 ?side2 A2.out).mono ?_); (case side1 => repeat (first | exact HR0.out | (with_reducible refine Kd.C_alloc ?_ _) | (with_reducible refine Kd.C_drewN ?_ _) | (with_reducible refine Kd.C_drew ?_))); (case side2 => exact HC0.out); rintro e w4 ⟨rfl, hb⟩; refine ⟨_, rfl, ?_⟩; replace HB := ak (below_step bl hb); (try clear hb); (try clear hb2); (try clear hk); (try clear hi)))
   go_ret2
   exact ⟨ew, bl⟩
 · rw [if_neg c3] at H
   have c3b0 : ((l0.length : Int) == 0) = false := beq_eq_false_iff_ne.mpr c3
   have c3b1 : ((l0.length : Int) != 0) = true := bne_iff_ne.mpr c3
   have c3b2 : ¬ (l0 = []) := fun h_ => c3 (by rw [h_]; rfl)
   by_cases c5 : t857 = true
   · subst c5
     replace H := iT H
     simp only [Option.some.injEq, Prod.mk.injEq] at H
     obtain ⟨rfl, rfl⟩ := H
     go_enter Try.func158, Try.ntmps158
     go_wp2_with (first | ((with_reducible refine gate_callee (f := 106) rfl ?_); refine gl (some 8) Try.func106 #[.slice A0 l0.length c0] ?_; (with_reducible refine (impl_AddValues.calls k _ _ l0 t856 true _ ?side1 ?side2 A2.out).mono ?_); (case side1 => repeat (first | exact HR0.out | (with_reducible refine Kd.C_alloc ?_ _) | (with_reducible refine Kd.C_drewN ?_ _) | (with_reducible refine Kd.C_drew ?_))); (case side2 => exact HC0.out); rintro e w6 ⟨rfl, hb⟩; refine ⟨_, rfl, ?_⟩; replace HB := ak (below_step bl hb); (try clear hb); (try clear hb2); (try clear hk); (try clear hi)))
     go_ret2
     exact ⟨ew, bl⟩
   · replace c5 := Bool.eq_false_iff.mpr c5
     subst c5
     replace H := iF H
     obtain ⟨t858, A70, H⟩ := bo H
     have A7 := Aside0.mk A70
     clear A70
     simp only [Option.some.injEq, Prod.mk.injEq] at H
     obtain ⟨rfl, rfl⟩ := H
     go_enter Try.func158, Try.ntmps158
     go_wp2_with (first | ((with_reducible refine gate_callee (f := 106) rfl ?_); refine gl (some 8) Try.func106 #[.slice A0 l0.length c0] ?_; (with_reducible refine (impl_AddValues.calls k _ _ l0 t856 false _ ?side1 ?side2 A2.out).mono ?_); (case side1 => repeat (first | exact HR0.out | (with_reducible refine Kd.C_alloc ?_ _) | (with_reducible refine Kd.C_drewN ?_ _) | (with_reducible refine Kd.C_drew ?_))); (case side2 => exact HC0.out); rintro e w8 ⟨rfl, hb⟩; refine ⟨_, rfl, ?_⟩; replace HB := ak (below_step bl hb); (try clear hb); (try clear hb2); (try clear hk); (try clear hi)) | ((with_reducible refine gate_callee (f := 185) rfl ?_); refine gl (some 20) Try.func185 #[.int .i64 t856, .int .i64 (l0.length : Int)] ?_; (with_reducible refine (impl_FloorDiv.calls t856 (l0.length : Int) t858 _ A7.out).mono ?_); rintro e w' ⟨rfl, ⟨nd, rfl⟩⟩; refine ⟨_, rfl, ?_⟩))
     go_ret2
     exact ⟨ew, bl⟩

end Go.Proofs.Ytplekidnlofioaa.Q
namespace Go.Proofs.Ytplekidnlofioaa.Q
open Go.RowKit Go.Proofs.YtplekidnlofioaaW.PrintWords Go.Proofs.YtplekidnlofioaaW.PrintLast Go.Proofs.YtplekidnlofioaaW.PrintMore
attribute [local go_sem] max2_int min2_int max_two min_two max_three min_three max_four min_four   -- for this text's walks alone
set_option linter.unusedVariables false
set_option linter.unusedSimpArgs false

/-! ### impl_AverageOf: function 105 -/
def impl_AverageOf.l0 : Nat → Int → Int → List Int → List (S37) → Int → Int → Option (Int × Bool)
 | 0, _, _, _, _, _, _ => none
 | k + 1, x3, x4, x14, x24, x25, x26 => if x26 < x25 then (if 0 ≤ x26 then (if x26 < (x24.length : Int) then (if ((rd_T37 x24 x26).f0) > x3 then (if ((rd_T37 x24 x26).f0) ≤ x4 then (if x14.length < 17592186044416 then (impl_AverageOf.l0 k x3 x4 (x14 ++ [(rd_T37 x24 x26).f1]) x24 x25 (wrap64 (x26 + 1))) else (none)) else (impl_AverageOf.l0 k x3 x4 x14 x24 x25 (wrap64 (x26 + 1)))) else (impl_AverageOf.l0 k x3 x4 x14 x24 x25 (wrap64 (x26 + 1)))) else (none)) else (none)) else ((impl_MeanOf.f k x14).bind fun bt868 => (some (bt868.1, bt868.2)))
def impl_AverageOf.f (k : Nat) (l0 : List (S81)) (a1 : ByteArray) (a2 : ByteArray) (a3 : Int) (a4 : Int) : Option (Int × Bool) := (impl_SeriesOf.f k l0 a1 a2).bind fun bt859 => (impl_AverageOf.l0 k a3 a4 ([] : List Int) bt859.1 (bt859.1.length : Int) 0)
theorem impl_AverageOf.mono_l : ∀ k, (∀ y0 y1 y2 y3 y4 y5, LeO (impl_AverageOf.l0 k y0 y1 y2 y3 y4 y5) (impl_AverageOf.l0 (k + 1) y0 y1 y2 y3 y4 y5))
 | 0 => fun _ _ _ _ _ _ r h => by simp [impl_AverageOf.l0] at h
 | k + 1 => by
  have ih0 := impl_AverageOf.mono_l k
  · intro y0 y1 y2 y3 y4 y5
    unfold impl_AverageOf.l0
    repeat' first
    | (with_reducible exact ih0 _ _ _ _ _ _)
    | (with_reducible exact impl_MeanOf.mono _ _)
    | (with_reducible exact impl_SeriesOf.mono _ _ _ _)
    | (with_reducible exact LeO.refl _)
    | (with_reducible exact LeO.none _)
    | (with_reducible refine LeO.ite ?_ ?_)
    | (with_reducible refine LeO.bind ?_ (fun _ => ?_))
    | exact ih0 _ _ _ _ _ _
    | exact impl_MeanOf.mono _ _
    | exact impl_SeriesOf.mono _ _ _ _
    | exact LeO.none _
    | refine LeO.ite ?_ ?_
    | refine LeO.bind ?_ (fun _ => ?_)
theorem impl_AverageOf.mono : ∀ a0 a1 a2 a3 a4 k, LeO (impl_AverageOf.f k a0 a1 a2 a3 a4) (impl_AverageOf.f (k + 1) a0 a1 a2 a3 a4) := by
 intro a0 a1 a2 a3 a4 k
 have ih0 := impl_AverageOf.mono_l k
 unfold impl_AverageOf.f
 repeat' first
  | (with_reducible exact ih0 _ _ _ _ _ _)
  | (with_reducible exact impl_MeanOf.mono _ _)
  | (with_reducible exact impl_SeriesOf.mono _ _ _ _)
  | (with_reducible exact LeO.refl _)
  | (with_reducible exact LeO.none _)
  | (with_reducible refine LeO.ite ?_ ?_)
  | (with_reducible refine LeO.bind ?_ (fun _ => ?_))
  | exact ih0 _ _ _ _ _ _
  | exact impl_MeanOf.mono _ _
  | exact impl_SeriesOf.mono _ _ _ _
  | exact LeO.none _
  | refine LeO.ite ?_ ?_
  | refine LeO.bind ?_ (fun _ => ?_)
set_option maxHeartbeats 8000000 in
set_option maxRecDepth 100000 in
theorem impl_AverageOf.calls (k : Nat) (A0 : Option Addr) (c0 : Nat) (l0 : List (S81)) (a1 : ByteArray) (a2 : ByteArray) (a3 : Int) (a4 : Int) (r1 : Int) (r2 : Bool) (w : World) (hr0 : Kd.C k81 w A0 l0.length l0) (hc0 : l0.length ≤ c0) (h : impl_AverageOf.f k l0 a1 a2 a3 a4 = some (r1, r2)) :
 Calls Try.prog 105 #[.slice A0 l0.length c0, .string a1, .string a2, .int .i64 a3, .int .i64 a4] w fun e w' => e = .returned (.tuple #[.int .i64 r1, .bool r2]) ∧ Below w.heap.size w w' := by
 have hu37 := Try.underlying37
 have HR0 := Aside0.mk hr0
 have HC0 := Aside0.mk hc0
 clear hr0 hc0
 have HB := Aside0.mk (Below.refl w.heap.size w)
 have H : ((impl_SeriesOf.f k l0 a1 a2).bind fun bt859 => (impl_AverageOf.l0 k a3 a4 ([] : List Int) bt859.1 (bt859.1.length : Int) 0)) = some (r1, r2) := h
 clear h
 replace H := Option.bind_eq_some_iff.mp H
 obtain ⟨⟨t859, t860⟩, A60, H⟩ := H
 replace H : (impl_AverageOf.l0 k a3 a4 ([] : List Int) t859 (t859.length : Int) 0) = some (r1, r2) := H
 have A6 := Aside0.mk A60
 clear A60
 have H' := Aside0.mk H
 clear H
 go_enter Try.func105, Try.ntmps105
 go_wp2_with (first | ((with_reducible refine gate_callee (f := 15) rfl ?_); refine gl (some 21) Try.func15 #[.slice A0 l0.length c0, .string a1, .string a2] ?_; (with_reducible refine (impl_SeriesOf.calls k _ _ l0 a1 a2 t859 t860 _ ?side1 ?side2 A6.out).mono ?_); (case side1 => repeat (first | exact HR0.out | (with_reducible refine Kd.C_alloc ?_ _) | (with_reducible refine Kd.C_drewN ?_ _) | (with_reducible refine Kd.C_drew ?_))); (case side2 => exact HC0.out); rintro e w7 ⟨v861, rfl, ho0, hb⟩; refine ⟨_, rfl, ?_⟩; have HO862 := ak (Kd.R_lower ho0 (below_size bl)); replace HB := ak (below_step bl hb); (try clear hb); (try clear hb2); (try clear hk); (try clear hi); (try clear ho0); obtain ⟨Ao8, co8, eo8⟩ := Kd.R_slice HO862.out; subst eo8))
 go_loopg [14, 26] k (fun kq v14 v26 w' => ∃ (x14_1 : List Int) (x26_1 : Int), v26 = .int .i64 x26_1 ∧ Aside0 (impl_AverageOf.l0 kq a3 a4 x14_1 t859 (t859.length : Int) x26_1 = some (r1, r2)) ∧ Aside0 (kq ≤ k) ∧ Aside0 (Kd.R (Kd.int .i64) 3 w' w.heap.size (fun _ => True) v14 x14_1) ∧ Aside0 (Kd.R k37 37 w' w.heap.size (fun _ => True) (.slice Ao8 t859.length co8) t859) ∧ Aside0 (Below w.heap.size w w'))
 case atStart => exact ⟨(([] : List Int)), (0), es, H', ⟨Nat.le_refl _⟩, ⟨by first | exact Kd.R_nil _ _ _ _ _ | exact Kd.N_nil _ _ _ _ _ | exact Kd.V_nil _ _ _ _ _ | exact Kd.Q_nil _ _ _ _ _ | exact Kd.S_nil _ _ _ _ _⟩, ⟨kr HO862⟩, ⟨bl⟩⟩
 case round =>
  clear H'
  try clear c1
  try clear p2
  obtain ⟨x14_1, x26_1, rfl, HA, HK1, HO_14, HO_24, HB⟩ := hrel
  cases gk with
  | zero => exact absurd HA.out (by simp [impl_AverageOf.l0])
  | succ k1 =>
   have H := HA.out
   clear HA
   simp only [impl_AverageOf.l0] at H
   by_cases c9 : x26_1 < (t859.length : Int)
   · rw [if_pos c9] at H
     have c9b0 : decide (x26_1 < (t859.length : Int)) = true := decide_eq_true c9
     clear c9
     by_cases c10 : 0 ≤ x26_1
     · rw [if_pos c10] at H
       have c10b0 : decide (0 ≤ x26_1) = true := decide_eq_true c10
       clear c10
       by_cases c11 : x26_1 < (t859.length : Int)
       · rw [if_pos c11] at H
         have c11b0 : decide (x26_1 < (t859.length : Int)) = true := decide_eq_true c11
         clear c11
         by_cases c12 : ((rd_T37 t859 x26_1).f0) > a3
         · rw [if_pos c12] at H
           have c12b0 : decide (a3 < ((rd_T37 t859 x26_1).f0)) = true := decide_eq_true c12
           clear c12
           by_cases c13 : ((rd_T37 t859 x26_1).f0) ≤ a4
           · rw [if_pos c13] at H
             have c13b0 : decide (((rd_T37 t859 x26_1).f0) ≤ a4) = true := decide_eq_true c13
             clear c13
             by_cases c14 : x14_1.length < 17592186044416
             · rw [if_pos c14] at H
               have LMc14 := Aside0.mk c14
               clear c14
               obtain ⟨y865, hy865⟩ : ∃ y_ : List Int, y_ = (x14_1 ++ [(rd_T37 t859 x26_1).f1]) := ⟨_, rfl⟩
               replace H : (impl_AverageOf.l0 k1 a3 a4 y865 t859 (t859.length : Int) (wrap64 (x26_1 + 1))) = some (r1, r2) := by first | (rw [hy865]; with_reducible exact H) | (have H2_ := (Option.bind_some _ _).symm.trans H; rw [hy865]; with_reducible exact H2_) | (have H2_ := (Option.bind_some _ _).symm.trans H; with_reducible exact H2_) | with_reducible exact H | (rw [hy865]; exact H) | exact H
               have Ny865 := Aside0.mk hy865
               clear hy865
               have H' := Aside0.mk H
               clear H
               have p863 : 0 ≤ (x26_1 : Int) := of_decide_eq_true am
               have q863 : x26_1 < (t859.length : Int) := of_decide_eq_true am
               obtain ⟨ad863, e863, hx863_0, hx863_1⟩ := at_T37 (Kd.R_reads' HO_24.out).2.2 x26_1 p863 q863
               cases e863
               replace p863 := eq_true p863
               replace q863 := eq_true q863
               go_wp2_with (first | ((with_reducible refine gate_dst (N := 16) rfl ?_); refine bx 16 #[.int .i64 0, .int .i64 0] 37 ?_; intro gb864 hg w15 hbox hb; replace HO_14 := ak (Kd.R_below (kr HO_14) hb); replace HO_24 := ak (Kd.R_below (Kd.R_elderB (kr HO_24) gb864 (Nat.le_of_eq hg.symm)) hb); have BK864 := ak hbox; have GW864 := gs hg bl; have GE864 := gs hg bl; replace HB := ak (below_step bl hb); clear hb hbox hg; obtain ⟨hcz16_0, hcz16_1, hfz16_0, hfz16_1⟩ := cz2 BK864) | ((with_reducible refine gate_builtin (b := .append) (xs := #[.tmp 40, .tmp 43]) rfl ?_); at_builtin; refine Kd.R_append (Kd.int .i64) (w0 := w) w.heap.size rfl (.tmp 40) (.tmp 43) 25 3 (.int .i64 0) 8 rfl Try.underlying25 info3 rfl (by decide) (by omega) u14 x14_1 ((rd_T37 t859 x26_1).f1) [.int .i64 ((rd_T37 t859 x26_1).f1)] (fun _ => True) (fun _ => False) rfl (by first | (go_simp; done) | (go_simp; rfl)) ?aP (fun _ hk => hk.elim) ?aF ?aO ?aB ?aS ?aL ?_; (case aP => exact rfl); (case aB => exact (bl1 GE864)); (case aF => exact (fun _ _ => trivial)); (case aO => exact (by (with_reducible repeat (first | apply Kd.R_alloc | apply Kd.R_drewN | apply Kd.R_drew)); exact Kd.R_mono (Kd.R_far (p := ⟨gb864, 1, none⟩) (Kd.R_far (p := ⟨gb864, 0, none⟩) (Kd.R_types HO_14.out BK864.out (by decide)) (fun _ hk => hk.2) (.int .i64 ((rd_T37 t859 x26_1).f0))) (fun _ hk => hk.2) (.int .i64 ((rd_T37 t859 x26_1).f1))) (fun _ hk => trivial))); (case aS => exact (below_size (bl1 GE864))); (case aL => have := LMc14.out; omega); intro v866 w17 ho hb hg hat; rw [← Ny865.out] at ho; replace HO_24 := ak (Kd.R_over' (by (with_reducible repeat (first | apply Kd.R_alloc | apply Kd.R_drewN | apply Kd.R_drew)); exact (Kd.R_mono (Kd.R_far (p := ⟨gb864, 1, none⟩) (Kd.R_far (p := ⟨gb864, 0, none⟩) (Kd.R_mono HO_24.out (fun k_ hk => (⟨hk, hk.2⟩ : _ ∧ k_ ≠ gb864))) (fun _ hk => hk.2) (.int .i64 ((rd_T37 t859 x26_1).f0))) (fun _ hk => hk.2) (.int .i64 ((rd_T37 t859 x26_1).f1))) (fun _ h_ => h_.1))) (Kd.R_typed (by (with_reducible repeat (first | apply Kd.R_alloc | apply Kd.R_drewN | apply Kd.R_drew)); exact (Kd.R_mono (Kd.R_far (p := ⟨gb864, 1, none⟩) (Kd.R_far (p := ⟨gb864, 0, none⟩) (Kd.R_types HO_14.out BK864.out (by decide)) (fun _ hk => hk.2) (.int .i64 ((rd_T37 t859 x26_1).f0))) (fun _ hk => hk.2) (.int .i64 ((rd_T37 t859 x26_1).f1))) (fun _ h_ => h_.1)))) (by decide) hg); replace BK864 := ak (blk_grown (g := gb864) (o := .cells #[.int .i64 ((rd_T37 t859 x26_1).f0), .int .i64 ((rd_T37 t859 x26_1).f1)] 37 (0, 0)) (by (with_reducible repeat (first | refine blk_drewN ?_ _ | refine blk_drew ?_ | refine blk_alloc ?_ _)); refine blk_put (cs := #[.int .i64 ((rd_T37 t859 x26_1).f0), .int .i64 0]) ?_ 1 _ rfl; (with_reducible repeat (first | refine blk_drewN ?_ _ | refine blk_drew ?_ | refine blk_alloc ?_ _)); refine blk_put (cs := #[.int .i64 0, .int .i64 0]) ?_ 0 _ rfl; (with_reducible repeat (first | refine blk_drewN ?_ _ | refine blk_drew ?_ | refine blk_alloc ?_ _)); exact BK864.out) hg (Kd.R_ne HO_14.out BK864.out (by decide))); replace HB := ak hb; have HO867 := ak ho; clear HO_14; clear ho hb hg hat))
               go_roundg k1
               case measure => have := HK1.out; omega
               case rel => exact ⟨(y865), (wrap64 (x26_1 + 1)), es, H', ⟨kp⟩, ⟨kr HO867⟩, ⟨by (with_reducible repeat (first | apply Kd.R_alloc | apply Kd.R_drewN | apply Kd.R_drew)); exact Kd.R_mono HO_24.out (fun _ hk => trivial)⟩, ⟨bl1 GE864⟩⟩
             · rw [if_neg c14] at H
               exact absurd H (by simp)
           · rw [if_neg c13] at H
             have c13b0 : decide (((rd_T37 t859 x26_1).f0) ≤ a4) = false := decide_eq_false c13
             clear c13
             have H' := Aside0.mk H
             clear H
             have p863 : 0 ≤ (x26_1 : Int) := of_decide_eq_true am
             have q863 : x26_1 < (t859.length : Int) := of_decide_eq_true am
             obtain ⟨ad863, e863, hx863_0, hx863_1⟩ := at_T37 (Kd.R_reads' HO_24.out).2.2 x26_1 p863 q863
             cases e863
             replace p863 := eq_true p863
             replace q863 := eq_true q863
             go_wp2_with (first | ((with_reducible refine gate_dst (N := 16) rfl ?_); refine bx 16 #[.int .i64 0, .int .i64 0] 37 ?_; intro gb864 hg w18 hbox hb; replace HO_14 := ak (Kd.R_below (kr HO_14) hb); replace HO_24 := ak (Kd.R_below (Kd.R_elderB (kr HO_24) gb864 (Nat.le_of_eq hg.symm)) hb); have BK864 := ak hbox; have GW864 := gs hg bl; have GE864 := gs hg bl; replace HB := ak (below_step bl hb); clear hb hbox hg; obtain ⟨hcz19_0, hcz19_1, hfz19_0, hfz19_1⟩ := cz2 BK864))
             go_roundg k1
             case measure => have := HK1.out; omega
             case rel => exact ⟨(x14_1), (wrap64 (x26_1 + 1)), es, H', ⟨kp⟩, ⟨by (with_reducible repeat (first | apply Kd.R_alloc | apply Kd.R_drewN | apply Kd.R_drew)); exact Kd.R_mono (Kd.R_far (p := ⟨gb864, 1, none⟩) (Kd.R_far (p := ⟨gb864, 0, none⟩) (Kd.R_types HO_14.out BK864.out (by decide)) (fun _ hk => hk.2) (.int .i64 ((rd_T37 t859 x26_1).f0))) (fun _ hk => hk.2) (.int .i64 ((rd_T37 t859 x26_1).f1))) (fun _ hk => trivial)⟩, ⟨by (with_reducible repeat (first | apply Kd.R_alloc | apply Kd.R_drewN | apply Kd.R_drew)); exact Kd.R_mono (Kd.R_far (p := ⟨gb864, 1, none⟩) (Kd.R_far (p := ⟨gb864, 0, none⟩) (Kd.R_mono HO_24.out (fun k_ hk => (⟨hk, hk.2⟩ : _ ∧ k_ ≠ gb864))) (fun _ hk => hk.2) (.int .i64 ((rd_T37 t859 x26_1).f0))) (fun _ hk => hk.2) (.int .i64 ((rd_T37 t859 x26_1).f1))) (fun _ hk => trivial)⟩, ⟨bl1 GE864⟩⟩
         · rw [if_neg c12] at H
           have c12b0 : decide (a3 < ((rd_T37 t859 x26_1).f0)) = false := decide_eq_false c12
           clear c12
           have H' := Aside0.mk H
           clear H
           have p863 : 0 ≤ (x26_1 : Int) := of_decide_eq_true am
           have q863 : x26_1 < (t859.length : Int) := of_decide_eq_true am
           obtain ⟨ad863, e863, hx863_0, hx863_1⟩ := at_T37 (Kd.R_reads' HO_24.out).2.2 x26_1 p863 q863
           cases e863
           replace p863 := eq_true p863
           replace q863 := eq_true q863
           go_wp2_with (first | ((with_reducible refine gate_dst (N := 16) rfl ?_); refine bx 16 #[.int .i64 0, .int .i64 0] 37 ?_; intro gb864 hg w20 hbox hb; replace HO_14 := ak (Kd.R_below (kr HO_14) hb); replace HO_24 := ak (Kd.R_below (Kd.R_elderB (kr HO_24) gb864 (Nat.le_of_eq hg.symm)) hb); have BK864 := ak hbox; have GW864 := gs hg bl; have GE864 := gs hg bl; replace HB := ak (below_step bl hb); clear hb hbox hg; obtain ⟨hcz21_0, hcz21_1, hfz21_0, hfz21_1⟩ := cz2 BK864))
           go_roundg k1
           case measure => have := HK1.out; omega
           case rel => exact ⟨(x14_1), (wrap64 (x26_1 + 1)), es, H', ⟨kp⟩, ⟨by (with_reducible repeat (first | apply Kd.R_alloc | apply Kd.R_drewN | apply Kd.R_drew)); exact Kd.R_mono (Kd.R_far (p := ⟨gb864, 1, none⟩) (Kd.R_far (p := ⟨gb864, 0, none⟩) (Kd.R_types HO_14.out BK864.out (by decide)) (fun _ hk => hk.2) (.int .i64 ((rd_T37 t859 x26_1).f0))) (fun _ hk => hk.2) (.int .i64 ((rd_T37 t859 x26_1).f1))) (fun _ hk => trivial)⟩, ⟨by (with_reducible repeat (first | apply Kd.R_alloc | apply Kd.R_drewN | apply Kd.R_drew)); exact Kd.R_mono (Kd.R_far (p := ⟨gb864, 1, none⟩) (Kd.R_far (p := ⟨gb864, 0, none⟩) (Kd.R_mono HO_24.out (fun k_ hk => (⟨hk, hk.2⟩ : _ ∧ k_ ≠ gb864))) (fun _ hk => hk.2) (.int .i64 ((rd_T37 t859 x26_1).f0))) (fun _ hk => hk.2) (.int .i64 ((rd_T37 t859 x26_1).f1))) (fun _ hk => trivial)⟩, ⟨bl1 GE864⟩⟩
       · rw [if_neg c11] at H
         exact absurd H (by simp)
     · rw [if_neg c10] at H
       exact absurd H (by simp)
   · rw [if_neg c9] at H
     have c9b0 : decide (x26_1 < (t859.length : Int)) = false := decide_eq_false c9
     clear c9
     replace H := Option.bind_eq_some_iff.mp H
     obtain ⟨⟨t868, t869⟩, A220, H⟩ := H
     replace H : (some (t868, t869)) = some (r1, r2) := H
     have A22 := Aside0.mk A220
     clear A220
     simp only [Option.some.injEq, Prod.mk.injEq] at H
     obtain ⟨rfl, rfl⟩ := H
     obtain ⟨Ao23, co23, eo23⟩ := Kd.R_slice HO_14.out
     subst eo23
     go_wp2_with (first | ((with_reducible refine gate_callee (f := 158) rfl ?_); refine gl (some 47) Try.func158 #[.slice Ao23 x14_1.length co23] ?_; (with_reducible refine (impl_MeanOf.calls k1 _ _ x14_1 t868 t869 _ ?side1 ?side2 A22.out).mono ?_); (case side1 => repeat (first | exact (Kd.R_reads' HO_14.out).2.2 | (with_reducible refine Kd.C_alloc ?_ _) | (with_reducible refine Kd.C_drewN ?_ _) | (with_reducible refine Kd.C_drew ?_))); (case side2 => exact (Kd.R_reads' HO_14.out).2.1); rintro e w24 ⟨rfl, hb⟩; refine ⟨_, rfl, ?_⟩; replace HO_14 := ak (Kd.R_below (kr HO_14) hb); replace HO_24 := ak (Kd.R_below (kr HO_24) hb); replace HB := ak (below_step bl hb); (try clear hb); (try clear hb2); (try clear hk); (try clear hi)))
     go_ret2
     exact ⟨ew, bl⟩

end Go.Proofs.Ytplekidnlofioaa.Q
namespace Go.Proofs.Ytplekidnlofioaa.Q
open Go.RowKit Go.Proofs.YtplekidnlofioaaW.PrintWords Go.Proofs.YtplekidnlofioaaW.PrintLast
def isNamed (a b : ByteArray) (s : S81) : Bool := decide (s.f0.toList = a.toList) && decide (s.f1.toList = b.toList)
theorem spec_l03At_l0_ev (xs : List S81) (hx : xs.length < 4611686018427387904) (a b : ByteArray) : ∀ suf pre, xs = pre ++ suf → ∃ t : Int, Ev (fun k => spec_l03At.l0 k xs a b (pre.length : Int)) t ∧ ((t = -1 ∧ suf.find? (isNamed a b) = none) ∨ ∃ (j : Nat) (s : S81), t = (j : Int) ∧ xs[j]? = some s ∧ suf.find? (isNamed a b) = some s) := by
  intro suf
  induction suf with
  | nil =>
    intro pre h
    refine ⟨-1, Ev.step (fun k => by rw [spec_l03At.l0]) ?_, .inl ⟨rfl, rfl⟩⟩
    have hlt : ¬ ((pre.length : Int) < (xs.length : Int)) := by rw [h]; simp
    simp only [if_neg hlt]
    exact Ev.now _
  | cons s suf ih =>
    intro pre h
    have hlt : ((pre.length : Int) < (xs.length : Int)) := by rw [h]; exact lt_mid _ _ _
    have hw := wrapn pre.length (by omega)
    have hrd : rd_T81 xs (pre.length : Int) = s := by rw [h]; exact rdS_mid _ _ _
    by_cases hn : isNamed a b s = true
    · refine ⟨(pre.length : Int), Ev.step (fun k => by rw [spec_l03At.l0]) ?_, .inr ⟨pre.length, s, rfl, by rw [h]; simp, by simp [List.find?, hn]⟩⟩
      simp only [isNamed, Bool.and_eq_true, decide_eq_true_eq] at hn
      simp only [if_pos hlt, if_pos (nn _), hrd, hn.1, hn.2, if_true]
      exact Ev.now _
    · obtain ⟨t, h1, h2⟩ := ih (pre ++ [s]) (by rw [h]; simp)
      rw [List.length_append, List.length_singleton] at h1
      refine ⟨t, Ev.step (fun k => by rw [spec_l03At.l0]) ?_, ?_⟩
      · simp only [if_pos hlt, if_pos (nn _), hrd, hw]
        by_cases c1 : s.f0.toList = a.toList
        · by_cases c2 : s.f1.toList = b.toList
          · exact absurd (by simp [isNamed, c1, c2]) hn
          · simp only [c1, c2, if_true, if_false]; exact h1
        · simp only [c1, if_false]; exact h1
      · simpa [List.find?, hn] using h2
theorem impl_pointsOf_l0_ev (xs : List S81) (hx : xs.length < 4611686018427387904) (a b : ByteArray) : ∀ suf pre, xs = pre ++ suf → Ev (fun k => impl_pointsOf.l0 k a b xs (xs.length : Int) (pre.length : Int)) (match suf.find? (isNamed a b) with | some s => s.f2 | none => []) := by
  intro suf
  induction suf with
  | nil =>
    intro pre h
    refine Ev.step (fun k => by rw [impl_pointsOf.l0]) ?_
    have hlt : ¬ ((pre.length : Int) < (xs.length : Int)) := by rw [h]; simp
    simp only [if_neg hlt]
    exact Ev.now _
  | cons s suf ih =>
    intro pre h
    have hlt : ((pre.length : Int) < (xs.length : Int)) := by rw [h]; exact lt_mid _ _ _
    have hw := wrapn pre.length (by omega)
    have hrd : rd_T81 xs (pre.length : Int) = s := by rw [h]; exact rdS_mid _ _ _
    have hr := ih (pre ++ [s]) (by rw [h]; simp)
    rw [List.length_append, List.length_singleton] at hr
    refine Ev.step (fun k => by rw [impl_pointsOf.l0]) ?_
    simp only [if_pos hlt, if_pos (nn _), hrd, hw]
    by_cases c1 : s.f0.toList = a.toList
    · by_cases c2 : s.f1.toList = b.toList
      · have hn : isNamed a b s = true := by simp [isNamed, c1, c2]
        simp only [c1, c2, if_true, List.find?, hn]; exact Ev.now _
      · have hn : isNamed a b s = false := by simp [isNamed, c2]
        simp only [c1, c2, if_true, if_false, List.find?, hn]; exact hr
    · have hn : isNamed a b s = false := by simp [isNamed, c1]
      simp only [c1, if_false, List.find?, hn]; exact hr
theorem spec_l03Points_l0_ev (ps : List S37) (hp : ps.length < 8796093022208) : ∀ suf pre, ps = pre ++ suf → Ev (fun k => spec_l03Points.l0 k ps pre (pre.length : Int)) ps := by
  intro suf
  induction suf with
  | nil =>
    intro pre h
    refine Ev.step (fun k => by rw [spec_l03Points.l0]) ?_
    have hlt : ¬ ((pre.length : Int) < (ps.length : Int)) := by rw [h]; simp
    simp only [if_neg hlt]
    rw [h, List.append_nil]
    exact Ev.now _
  | cons p suf ih =>
    intro pre h
    have hlt : ((pre.length : Int) < (ps.length : Int)) := by rw [h]; exact lt_mid _ _ _
    have hw := wrapn pre.length (by omega)
    have hrd : rd_T37 ps (pre.length : Int) = p := by rw [h]; exact rdP_mid _ _ _
    have hr := ih (pre ++ [p]) (by rw [h]; simp)
    rw [List.length_append, List.length_singleton] at hr
    refine Ev.step (fun k => by rw [spec_l03Points.l0]) ?_
    have hb : pre.length < 8796093022208 := by omega
    simp only [if_pos hlt, if_pos (nn _), hrd, hw, if_pos hb]
    exact hr
theorem spec_l03Points_ev (ps : List S37) (hp : ps.length < 8796093022208) : Ev (fun k => spec_l03Points.f k ps) ps := spec_l03Points_l0_ev ps hp ps [] rfl
def serOf (l : List S81) (a b : ByteArray) : List S37 × Bool := if storeOk l = true then (match l.find? (isNamed a b) with | some s => (s.f2, true) | none => ([], false)) else ([], false)
theorem stFrom_all : ∀ (l : List S81) (prev : Option S81), stFrom prev l = true → ∀ s ∈ l, serOk s = true
  | [], _, _, s, hs => by cases hs
  | x :: r, prev, h, s, hs => by
    simp only [stFrom, Bool.and_eq_true] at h
    rcases List.mem_cons.1 hs with rfl | hs
    · exact h.1.1
    · exact stFrom_all r _ h.2 s hs
theorem storeOk_all {l : List S81} (h : storeOk l = true) : ∀ s ∈ l, serOk s = true := by
  simp only [storeOk, Bool.and_eq_true] at h
  exact stFrom_all l _ h.2
theorem serOk_len {s : S81} (h : serOk s = true) : 1 ≤ s.f2.length ∧ s.f2.length ≤ 12 := by
  simp only [serOk, inB, Bool.and_eq_true, decide_eq_true_eq] at h
  omega
theorem find_mem {l : List S81} {p : S81 → Bool} {s : S81} (h : l.find? p = some s) : s ∈ l := List.mem_of_find?_eq_some h
theorem spec_SeriesOf_ev (l : List S81) (hx : l.length < 4611686018427387904) (hf : ∀ s ∈ l, fitS s) (a b : ByteArray) : Ev (fun k => spec_SeriesOf.f k l a b) (serOf l a b) := by
  unfold spec_SeriesOf.f serOf
  obtain ⟨t, h1, h2⟩ := spec_l03At_l0_ev l hx a b l [] rfl
  refine Ev.bind (a := t) h1 ?_
  refine Ev.bind (spec_StoreOk_ev l hx hf) ?_
  cases hs : storeOk l
  · simp only [if_neg no_ft]; exact Ev.now _
  · simp only [if_true]
    rcases h2 with ⟨rfl, h2⟩ | ⟨j, s, rfl, hj, h2⟩
    · rw [h2]
      simp only [show ((-1 : Int) < 0) from by decide, if_true]
      exact Ev.now _
    · rw [h2]
      have hjl : j < l.length := (List.getElem?_eq_some_iff.1 hj).1
      have hrd : rd_T81 l (j : Int) = s := by simp [rd_T81, List.getD, hj]
      have hsl := serOk_len (storeOk_all hs s (find_mem h2))
      simp only [show ¬ ((j : Int) < 0) from by omega, if_false, if_pos (nn _), show ((j : Int) < (l.length : Int)) from by omega, if_true, hrd]
      exact Ev.bind (spec_l03Points_ev s.f2 (by omega)) (Ev.now _)
theorem clone_v (ps : List S37) (h : ps.length < 8796093022208) : slices_Clone_impl_Point_impl_Point.f ps = some ps := by simp [slices_Clone_impl_Point_impl_Point.f, h]
theorem impl_SeriesOf_ev (l : List S81) (hx : l.length < 4611686018427387904) (hf : ∀ s ∈ l, fitS s) (a b : ByteArray) : Ev (fun k => impl_SeriesOf.f k l a b) (serOf l a b) := by
  unfold impl_SeriesOf.f serOf
  refine Ev.bind (impl_StoreOk_ev l hx hf) ?_
  cases hs : storeOk l
  · simp only [if_neg no_ft]; exact Ev.now _
  · simp only [if_true]
    refine Ev.bind (impl_pointsOf_l0_ev l hx a b l [] rfl) ?_
    cases h2 : l.find? (isNamed a b) with
    | none =>
      simp only [clone_v [] (by decide), Option.bind_some, List.length_nil]
      exact Ev.now _
    | some s =>
      have hsl := serOk_len (storeOk_all hs s (find_mem h2))
      simp only [clone_v s.f2 (by omega), Option.bind_some, show decide ((s.f2.length : Int) > 0) = true from by simp; omega]
      exact Ev.now _
theorem rd_mid (pre suf : List Int) (x : Int) : rd (pre ++ x :: suf) (pre.length : Int) = x := by simp [rd]

theorem serOf_len (l : List S81) (a b : ByteArray) : (serOf l a b).1.length ≤ 12 := by
  unfold serOf
  cases hs : storeOk l
  · simp
  · simp only [if_true]
    cases h2 : l.find? (isNamed a b) with
    | none => simp
    | some s => exact (serOk_len (storeOk_all hs s (find_mem h2))).2
end Go.Proofs.Ytplekidnlofioaa.Q
namespace Go.Proofs.Ytplekidnlofioaa.Q
open Go.RowKit Go.Proofs.YtplekidnlofioaaW.PrintWords Go.Proofs.YtplekidnlofioaaW.PrintLast Go.Proofs.YtplekidnlofioaaW.PrintMore
attribute [local go_sem] max2_int min2_int max_two min_two max_three min_three max_four min_four   -- for this text's walks alone
set_option linter.unusedVariables false
set_option linter.unusedSimpArgs false

/-! ### spec_PodOk: function 137 -/
def spec_PodOk.f (k : Nat) (a0_0 : ByteArray) (a0_1 : Int) (a0_2 : Int) (a0_3 : Bool) : Option (Bool) := (spec_NameOk.f k a0_0).bind fun t371 => (if t371 = true then ((spec_l02Tick.f a0_1).bind fun t372 => (if t372 = true then ((spec_l01In.f a0_2 0 2).bind fun t373 => (some t373)) else (some false))) else (some false))
theorem spec_PodOk.mono : ∀ a0 a1 a2 a3 k, LeO (spec_PodOk.f k a0 a1 a2 a3) (spec_PodOk.f (k + 1) a0 a1 a2 a3) := by
 intro a0 a1 a2 a3 k
 unfold spec_PodOk.f
 repeat' first
  | (with_reducible exact spec_NameOk.mono _ _)
  | (with_reducible exact LeO.refl _)
  | (with_reducible exact LeO.none _)
  | (with_reducible refine LeO.ite ?_ ?_)
  | (with_reducible refine LeO.bind ?_ (fun _ => ?_))
  | exact spec_NameOk.mono _ _
  | exact LeO.none _
  | refine LeO.ite ?_ ?_
  | refine LeO.bind ?_ (fun _ => ?_)
set_option maxHeartbeats 8000000 in
set_option maxRecDepth 100000 in
theorem spec_PodOk.calls (k : Nat) (a0_0 : ByteArray) (a0_1 : Int) (a0_2 : Int) (a0_3 : Bool) (r : Bool) (w : World) (h : spec_PodOk.f k a0_0 a0_1 a0_2 a0_3 = some r) :
 Calls Try.prog 137 #[.agg #[.string a0_0, .int .i64 a0_1, .int .i64 a0_2, .bool a0_3]] w fun e w' => e = .returned (.bool r) ∧ Below w.heap.size w w' := by
 have hu147 := Try.underlying147
 have HB := Aside0.mk (Below.refl w.heap.size w)
 have H : ((spec_NameOk.f k a0_0).bind fun t371 => (if t371 = true then ((spec_l02Tick.f a0_1).bind fun t372 => (if t372 = true then ((spec_l01In.f a0_2 0 2).bind fun t373 => (some t373)) else (some false))) else (some false))) = some r := h
 clear h
 obtain ⟨t371, A20, H⟩ := bo H
 have A2 := Aside0.mk A20
 clear A20
 by_cases c3 : t371 = true
 · subst c3
   replace H := iT H
   obtain ⟨t372, A40, H⟩ := bo H
   have A4 := Aside0.mk A40
   clear A40
   by_cases c5 : t372 = true
   · subst c5
     replace H := iT H
     obtain ⟨t373, A60, H⟩ := bo H
     have A6 := Aside0.mk A60
     clear A60
     obtain rfl := Option.some.inj H
     go_enter Try.func137, Try.ntmps137
     go_wp2_with (first | ((with_reducible refine gate_dst (N := 1) rfl ?_); refine bx 1 #[.string a0_0, .int .i64 a0_1, .int .i64 a0_2, .bool a0_3] 147 ?_; intro gb370 hg w7 hbox hb; have BK370 := ak hbox; have GW370 := gs hg bl; have GE370 := gs hg bl; replace HB := ak (below_step bl hb); clear hb hbox hg; obtain ⟨hcz8_0, hcz8_1, hcz8_2, hcz8_3, hfz8_0, hfz8_1, hfz8_2, hfz8_3⟩ := cz4 BK370) | ((with_reducible refine gate_callee (f := 68) rfl ?_); refine gl (some 5) Try.func68 #[.string a0_0] ?_; (with_reducible refine (spec_NameOk.calls k a0_0 true _ A2.out).mono ?_); rintro e w' ⟨rfl, ⟨nd, rfl⟩⟩; refine ⟨_, rfl, ?_⟩) | (go_at_call 71; (with_reducible refine (spec_l02Tick.calls a0_1 true _ A4.out).mono ?_); rintro e w' ⟨rfl, ⟨nd, rfl⟩⟩) | (go_at_call 69; (with_reducible refine (spec_l01In.calls a0_2 0 2 t373 _ A6.out).mono ?_); rintro e w' ⟨rfl, ⟨nd, rfl⟩⟩))
     go_ret
     exact ⟨ew, bl1 GE370⟩
   · replace c5 := Bool.eq_false_iff.mpr c5
     subst c5
     replace H := iF H
     obtain rfl := Option.some.inj H
     go_enter Try.func137, Try.ntmps137
     go_wp2_with (first | ((with_reducible refine gate_dst (N := 1) rfl ?_); refine bx 1 #[.string a0_0, .int .i64 a0_1, .int .i64 a0_2, .bool a0_3] 147 ?_; intro gb370 hg w9 hbox hb; have BK370 := ak hbox; have GW370 := gs hg bl; have GE370 := gs hg bl; replace HB := ak (below_step bl hb); clear hb hbox hg; obtain ⟨hcz10_0, hcz10_1, hcz10_2, hcz10_3, hfz10_0, hfz10_1, hfz10_2, hfz10_3⟩ := cz4 BK370) | ((with_reducible refine gate_callee (f := 68) rfl ?_); refine gl (some 5) Try.func68 #[.string a0_0] ?_; (with_reducible refine (spec_NameOk.calls k a0_0 true _ A2.out).mono ?_); rintro e w' ⟨rfl, ⟨nd, rfl⟩⟩; refine ⟨_, rfl, ?_⟩) | (go_at_call 71; (with_reducible refine (spec_l02Tick.calls a0_1 false _ A4.out).mono ?_); rintro e w' ⟨rfl, ⟨nd, rfl⟩⟩))
     go_ret
     exact ⟨ew, bl1 GE370⟩
 · replace c3 := Bool.eq_false_iff.mpr c3
   subst c3
   replace H := iF H
   obtain rfl := Option.some.inj H
   go_enter Try.func137, Try.ntmps137
   go_wp2_with (first | ((with_reducible refine gate_dst (N := 1) rfl ?_); refine bx 1 #[.string a0_0, .int .i64 a0_1, .int .i64 a0_2, .bool a0_3] 147 ?_; intro gb370 hg w11 hbox hb; have BK370 := ak hbox; have GW370 := gs hg bl; have GE370 := gs hg bl; replace HB := ak (below_step bl hb); clear hb hbox hg; obtain ⟨hcz12_0, hcz12_1, hcz12_2, hcz12_3, hfz12_0, hfz12_1, hfz12_2, hfz12_3⟩ := cz4 BK370) | ((with_reducible refine gate_callee (f := 68) rfl ?_); refine gl (some 5) Try.func68 #[.string a0_0] ?_; (with_reducible refine (spec_NameOk.calls k a0_0 false _ A2.out).mono ?_); rintro e w' ⟨rfl, ⟨nd, rfl⟩⟩; refine ⟨_, rfl, ?_⟩))
   go_ret
   exact ⟨ew, bl1 GE370⟩

end Go.Proofs.Ytplekidnlofioaa.Q
namespace Go.Proofs.Ytplekidnlofioaa.Q
open Go.RowKit Go.Proofs.YtplekidnlofioaaW.PrintWords Go.Proofs.YtplekidnlofioaaW.PrintLast Go.Proofs.YtplekidnlofioaaW.PrintMore
attribute [local go_sem] max2_int min2_int max_two min_two max_three min_three max_four min_four   -- for this text's walks alone
set_option linter.unusedVariables false
set_option linter.unusedSimpArgs false

/-! ### spec_PodsOk: function 86 -/
def spec_PodsOk.l0 : Nat → List (S147) → Int → Option (Bool)
 | 0, _, _ => none
 | k + 1, x0, x3 => if x3 < (x0.length : Int) then (if 0 ≤ x3 then ((spec_PodOk.f k ((rd_T147 x0 x3).f0) ((rd_T147 x0 x3).f1) ((rd_T147 x0 x3).f2) ((rd_T147 x0 x3).f3)).bind fun t375 => (if t375 = true then (if x3 > 0 then (if 0 ≤ (wrap64 (x3 - 1)) then (if (wrap64 (x3 - 1)) < (x0.length : Int) then ((spec_l02Less.f k ((rd_T147 x0 (wrap64 (x3 - 1))).f0) ((rd_T147 x0 x3).f0)).bind fun t378 => (if t378 = true then (spec_PodsOk.l0 k x0 (wrap64 (x3 + 1))) else (some false))) else (none)) else (none)) else (spec_PodsOk.l0 k x0 (wrap64 (x3 + 1)))) else (some false))) else (none)) else (some true)
def spec_PodsOk.f (k : Nat) (l0 : List (S147)) : Option (Bool) := if (l0.length : Int) > 12 then (some false) else (spec_PodsOk.l0 k l0 0)
theorem spec_PodsOk.mono_l : ∀ k, (∀ y0 y1, LeO (spec_PodsOk.l0 k y0 y1) (spec_PodsOk.l0 (k + 1) y0 y1))
 | 0 => fun _ _ r h => by simp [spec_PodsOk.l0] at h
 | k + 1 => by
  have ih0 := spec_PodsOk.mono_l k
  · intro y0 y1
    unfold spec_PodsOk.l0
    repeat' first
    | (with_reducible exact ih0 _ _)
    | (with_reducible exact spec_PodOk.mono _ _ _ _ _)
    | (with_reducible exact spec_l02Less.mono _ _ _)
    | (with_reducible exact LeO.refl _)
    | (with_reducible exact LeO.none _)
    | (with_reducible refine LeO.ite ?_ ?_)
    | (with_reducible refine LeO.bind ?_ (fun _ => ?_))
    | exact ih0 _ _
    | exact spec_PodOk.mono _ _ _ _ _
    | exact spec_l02Less.mono _ _ _
    | exact LeO.none _
    | refine LeO.ite ?_ ?_
    | refine LeO.bind ?_ (fun _ => ?_)
theorem spec_PodsOk.mono : ∀ a0 k, LeO (spec_PodsOk.f k a0) (spec_PodsOk.f (k + 1) a0) := by
 intro a0 k
 have ih0 := spec_PodsOk.mono_l k
 unfold spec_PodsOk.f
 repeat' first
  | (with_reducible exact ih0 _ _)
  | (with_reducible exact spec_PodOk.mono _ _ _ _ _)
  | (with_reducible exact spec_l02Less.mono _ _ _)
  | (with_reducible exact LeO.refl _)
  | (with_reducible exact LeO.none _)
  | (with_reducible refine LeO.ite ?_ ?_)
  | (with_reducible refine LeO.bind ?_ (fun _ => ?_))
  | exact ih0 _ _
  | exact spec_PodOk.mono _ _ _ _ _
  | exact spec_l02Less.mono _ _ _
  | exact LeO.none _
  | refine LeO.ite ?_ ?_
  | refine LeO.bind ?_ (fun _ => ?_)
def spec_PodsOk.T6 : Bool × List (List Nat × List Nat) := (true, [([], []), ([], []), ([0, 1], [0, 1]), ([2], [2]), ([3], [3]), ([4], [4]), ([5, 4], [5]), ([6], [6]), ([7, 6], [6, 7]), ([8, 6, 6], [6, 8]), ([9], [9]), ([9], [9]), ([11, 9], [9, 11]), ([10, 12, 9], [9, 10, 12]), ([13, 9], [9, 13]), ([14, 9], [9, 14]), ([9], [9]), ([9], [9]), ([16, 17, 9], [9, 16, 17]), ([18, 9], [9, 18]), ([19, 9], [9, 19]), ([15, 20, 9, 9], [9, 15, 20]), ([21, 9], [9, 21]), ([9, 22, 6], [6, 9, 22]), ([6, 23], [6, 23])])
def spec_PodsOk.B6 : List Nat := [0, 0, 3, 7, 15, 31, 63, 127, 255, 511, 1023, 1023, 3071, 8191, 16383, 32767, 1023, 1023, 197631, 459775, 984063, 2097151, 4194303, 8388607, 16777215]
theorem spec_PodsOk.tab6 : rtab .any (opsOf Try.f86 6) = spec_PodsOk.T6 := by kernel_rfl
theorem spec_PodsOk.bits6 : waitsOk spec_PodsOk.T6.2 spec_PodsOk.B6 = true := by kernel_rfl
set_option maxHeartbeats 8000000 in
set_option maxRecDepth 100000 in
theorem spec_PodsOk.calls (k : Nat) (A0 : Option Addr) (c0 : Nat) (l0 : List (S147)) (r : Bool) (w : World) (hr0 : Kd.C k147 w A0 l0.length l0) (hc0 : l0.length ≤ c0) (h : spec_PodsOk.f k l0 = some r) :
 Calls Try.prog 86 #[.slice A0 l0.length c0] w fun e w' => e = .returned (.bool r) ∧ Below w.heap.size w w' := by
 have hu147 := Try.underlying147
 have HR0 := Aside0.mk hr0
 have HC0 := Aside0.mk hc0
 clear hr0 hc0
 have HB := Aside0.mk (Below.refl w.heap.size w)
 have H : (if (l0.length : Int) > 12 then (some false) else (spec_PodsOk.l0 k l0 0)) = some r := h
 clear h
 by_cases c2 : (l0.length : Int) > 12
 · rw [if_pos c2] at H
   have c2b0 : decide (12 < (l0.length : Int)) = true := decide_eq_true c2
   have c2b1 : decide (12 < l0.length) = true := decide_eq_true (by omega)
   clear c2
   obtain rfl := Option.some.inj H
   go_enter Try.func86, Try.ntmps86
   go_wp2
   go_ret
   exact ⟨ew, bl⟩
 · rw [if_neg c2] at H
   have c2b0 : decide (12 < (l0.length : Int)) = false := decide_eq_false c2
   have c2b1 : decide (12 < l0.length) = false := decide_eq_false (by omega)
   clear c2
   have H' := Aside0.mk H
   clear H
   go_enter Try.func86, Try.ntmps86
   go_wp2
   go_loopg [3] k (fun kq v3 w' => ∃ (x3_1 : Int), v3 = .int .i64 x3_1 ∧ Aside0 (spec_PodsOk.l0 kq l0 x3_1 = some r) ∧ Aside0 (kq ≤ k) ∧ Aside0 (Below w.heap.size w w'))
   case atStart => exact ⟨(0), es, H', ⟨Nat.le_refl _⟩, ⟨bl⟩⟩
   case round =>
    clear H'
    try clear c2
    try clear c2b0
    try clear c2b1
    try clear p2
    obtain ⟨x3_1, rfl, HA, HK1, HB⟩ := hrel
    cases gk with
    | zero => exact absurd HA.out (by simp [spec_PodsOk.l0])
    | succ k1 =>
     have H := HA.out
     clear HA
     simp only [spec_PodsOk.l0] at H
     by_cases c3 : x3_1 < (l0.length : Int)
     · rw [if_pos c3] at H
       have c3b0 : decide (x3_1 < (l0.length : Int)) = true := decide_eq_true c3
       clear c3
       by_cases c4 : 0 ≤ x3_1
       · rw [if_pos c4] at H
         have c4b0 : decide (0 ≤ x3_1) = true := decide_eq_true c4
         clear c4
         obtain ⟨t375, A50, H⟩ := bo H
         have A5 := Aside0.mk A50
         clear A50
         by_cases c6 : t375 = true
         · subst c6
           replace H := iT H
           by_cases c7 : x3_1 > 0
           · rw [if_pos c7] at H
             have c7b0 : decide (0 < x3_1) = true := decide_eq_true c7
             clear c7
             obtain ⟨ji8, hji8⟩ : ∃ j_ : Int, (wrap64 (x3_1 - 1)) = j_ := ⟨_, rfl⟩
             replace H : (if 0 ≤ (ji8) then (if (ji8) < (l0.length : Int) then ((spec_l02Less.f k1 ((rd_T147 l0 (ji8)).f0) ((rd_T147 l0 x3_1).f0)).bind fun t378 => (if t378 = true then (spec_PodsOk.l0 k1 l0 (wrap64 (x3_1 + 1))) else (some false))) else (none)) else (none)) = some r := by first | (rw [hji8] at H; exact H) | (simp only [hji8] at H ⊢; exact H)
             (try rw [hji8] at A5)
             have hji8w : (IntKind.i64.wrap (x3_1 - 1)) = ji8 := (i64_w _).trans hji8
             by_cases c9 : 0 ≤ (ji8)
             · rw [if_pos c9] at H
               have c9b0 : decide (0 ≤ (ji8)) = true := decide_eq_true c9
               clear c9
               by_cases c10 : (ji8) < (l0.length : Int)
               · rw [if_pos c10] at H
                 have c10b0 : decide ((ji8) < (l0.length : Int)) = true := decide_eq_true c10
                 clear c10
                 obtain ⟨t378, A110, H⟩ := bo H
                 have A11 := Aside0.mk A110
                 clear A110
                 by_cases c12 : t378 = true
                 · subst c12
                   replace H := iT H
                   have H' := Aside0.mk H
                   clear H
                   try go_wp2
                   replace HB := ak (below_drew1 HB.out)
                   have p374 : 0 ≤ (x3_1 : Int) := of_decide_eq_true am
                   have q374 : x3_1 < (l0.length : Int) := of_decide_eq_true am
                   obtain ⟨ad374, e374, hx374_0, hx374_1, hx374_2, hx374_3⟩ := at_T147 HR0.out x3_1 p374 q374
                   have hw374_3 := hx374_3
                   have hw374_2 := hx374_2
                   have hw374_1 := hx374_1
                   have hw374_0 := hx374_0
                   cases e374
                   replace hx374_0 := cw hx374_0
                   replace hx374_1 := cw hx374_1
                   replace hx374_2 := cw hx374_2
                   replace hx374_3 := cw hx374_3
                   replace p374 := eq_true p374
                   replace q374 := eq_true q374
                   have p376 : 0 ≤ ((ji8) : Int) := of_decide_eq_true am
                   have q376 : (ji8) < (l0.length : Int) := of_decide_eq_true am
                   obtain ⟨ad376, e376, hx376_0, hx376_1, hx376_2, hx376_3⟩ := at_T147 HR0.out (ji8) p376 q376
                   have hw376_3 := hx376_3
                   have hw376_2 := hx376_2
                   have hw376_1 := hx376_1
                   have hw376_0 := hx376_0
                   obtain rfl : ad374 = ad376 := (by injection e376)
                   replace hx376_0 := cw hx376_0
                   replace hx376_1 := cw hx376_1
                   replace hx376_2 := cw hx376_2
                   replace hx376_3 := cw hx376_3
                   replace p376 := eq_true p376
                   replace q376 := eq_true q376
                   have p377 : 0 ≤ (x3_1 : Int) := of_decide_eq_true am
                   have q377 : x3_1 < (l0.length : Int) := of_decide_eq_true am
                   obtain ⟨ad377, e377, hx377_0, hx377_1, hx377_2, hx377_3⟩ := at_T147 HR0.out x3_1 p377 q377
                   have hw377_3 := hx377_3
                   have hw377_2 := hx377_2
                   have hw377_1 := hx377_1
                   have hw377_0 := hx377_0
                   obtain rfl : ad374 = ad377 := (by injection e377)
                   replace hx377_0 := cw hx377_0
                   replace hx377_1 := cw hx377_1
                   replace hx377_2 := cw hx377_2
                   replace hx377_3 := cw hx377_3
                   replace p377 := eq_true p377
                   replace q377 := eq_true q377
                   refine start_ (n := 25) (S := fun w' => w'.cell? (ad374.add ((x3_1).toNat * 4)) = some (.string ((rd_T147 l0 x3_1).f0)) ∧ w'.cell? ⟨(ad374.add ((x3_1).toNat * 4)).block, (ad374.add ((x3_1).toNat * 4)).off + 1, none⟩ = some (.int .i64 ((rd_T147 l0 x3_1).f1)) ∧ w'.cell? ⟨(ad374.add ((x3_1).toNat * 4)).block, (ad374.add ((x3_1).toNat * 4)).off + 2, none⟩ = some (.int .i64 ((rd_T147 l0 x3_1).f2)) ∧ w'.cell? ⟨(ad374.add ((x3_1).toNat * 4)).block, (ad374.add ((x3_1).toNat * 4)).off + 3, none⟩ = some (.bool ((rd_T147 l0 x3_1).f3)) ∧ w'.cell? (ad374.add (((ji8)).toNat * 4)) = some (.string ((rd_T147 l0 (ji8)).f0)) ∧ w'.cell? ⟨(ad374.add (((ji8)).toNat * 4)).block, (ad374.add (((ji8)).toNat * 4)).off + 1, none⟩ = some (.int .i64 ((rd_T147 l0 (ji8)).f1)) ∧ w'.cell? ⟨(ad374.add (((ji8)).toNat * 4)).block, (ad374.add (((ji8)).toNat * 4)).off + 2, none⟩ = some (.int .i64 ((rd_T147 l0 (ji8)).f2)) ∧ w'.cell? ⟨(ad374.add (((ji8)).toNat * 4)).block, (ad374.add (((ji8)).toNat * 4)).off + 3, none⟩ = some (.bool ((rd_T147 l0 (ji8)).f3)) ∧ w'.cell? (ad374.add ((x3_1).toNat * 4)) = some (.string ((rd_T147 l0 x3_1).f0)) ∧ w'.cell? ⟨(ad374.add ((x3_1).toNat * 4)).block, (ad374.add ((x3_1).toNat * 4)).off + 1, none⟩ = some (.int .i64 ((rd_T147 l0 x3_1).f1)) ∧ w'.cell? ⟨(ad374.add ((x3_1).toNat * 4)).block, (ad374.add ((x3_1).toNat * 4)).off + 2, none⟩ = some (.int .i64 ((rd_T147 l0 x3_1).f2)) ∧ w'.cell? ⟨(ad374.add ((x3_1).toNat * 4)).block, (ad374.add ((x3_1).toNat * 4)).off + 3, none⟩ = some (.bool ((rd_T147 l0 x3_1).f3))) (ds := []) (bitsA 25 0) (by kernel_rfl) rfl rfl ⟨(cw hw374_0), (cw hw374_1), (cw hw374_2), (cw hw374_3), (cw hw376_0), (cw hw376_1), (cw hw376_2), (cw hw376_3), (cw hw377_0), (cw hw377_1), (cw hw377_2), (cw hw377_3)⟩ (fun hHeld => ?_); refine with_tabW spec_PodsOk.tab6 spec_PodsOk.bits6 (fun HT_ HW_ => ?_)
                   generalize wr.drew = w13 at HB hx374_0 hx374_1 hx374_2 hx374_3 hx376_0 hx376_1 hx376_2 hx376_3 hx377_0 hx377_1 hx377_2 hx377_3 hHeld ⊢
                   refine pu 0 (some 13) (bitsA 25 1) ?_
                   refine pu 1 (some 14) (bitsA 25 3) ?_
                   refine pu 2 (some 15) (bitsA 25 7) ?_
                   refine tk 3 (some 16) (bitsA 25 15) hHeld ?_ (hy := Or.inl ⟨by rfl, by rintro w' ⟨s0, s1, s2, s3, s4, s5, s6, s7, s8, s9, s10, s11⟩; go_simp; with_reducible rfl⟩)
                   refine one_ (i := 4) (N := some 17) (bitsA 25 31) rfl rfl (one_of HT_.out (by kernel_rfl)) (by decide) (fun K hK => ?_)
                   refine goes_ Try.func137 (by kernel_rfl) rfl #[.agg #[.string ((rd_T147 l0 x3_1).f0), .int .i64 ((rd_T147 l0 x3_1).f1), .int .i64 ((rd_T147 l0 x3_1).f2), .bool ((rd_T147 l0 x3_1).f3)]] (by rfl) rfl rfl mt ?_
                   with_reducible refine (spec_PodOk.calls k1 ((rd_T147 l0 x3_1).f0) ((rd_T147 l0 x3_1).f1) ((rd_T147 l0 x3_1).f2) ((rd_T147 l0 x3_1).f3) true _ A5.out).mono ?_
                   rintro e w14 ⟨rfl, hb⟩
                   refine ⟨_, rfl, ?_⟩
                   replace HB := ak (below_step bl hb)
                   (try clear hb)
                   (try clear hb2)
                   (try clear hk)
                   (try clear hi)
                   refine hK.out _ _ ⟨(cw hw374_0), (cw hw374_1), (cw hw374_2), (cw hw374_3), (cw hw376_0), (cw hw376_1), (cw hw376_2), (cw hw376_3), (cw hw377_0), (cw hw377_1), (cw hw377_2), (cw hw377_3)⟩ (fun hHeld => ?_)
                   clear hK K
                   refine nm ?_
                   refine pu 5 (some 18) (bitsA 25 63) ?_
                   refine pu 6 (some 19) (bitsA 25 127) ?_
                   refine pu 7 (some 20) (bitsA 25 255) ?_
                   refine pu 8 (some 21) (bitsA 25 511) ?_
                   refine pu 9 (some 22) (bitsA 25 1023) ?_
                   refine pu 10 (some 23) (bitsA 25 2047) ?_
                   refine pu 11 (some 24) (bitsA 25 4095) ?_
                   refine pu 12 (some 25) (bitsA 25 8191) ?_
                   refine pu 13 (some 26) (bitsA 25 16383) ?_
                   refine pu 14 (some 27) (bitsA 25 32767) ?_
                   refine tk 15 (some 28) (bitsA 25 65535) hHeld ?_ (hy := Or.inl ⟨by rfl, by rintro w' ⟨s0, s1, s2, s3, s4, s5, s6, s7, s8, s9, s10, s11⟩; go_simp; with_reducible rfl⟩)
                   refine pu 16 (some 29) (bitsA 25 131071) ?_
                   refine pu 17 (some 30) (bitsA 25 262143) ?_
                   refine pu 18 (some 31) (bitsA 25 524287) ?_
                   refine pu 19 (some 32) (bitsA 25 1048575) ?_
                   refine tk 20 (some 33) (bitsA 25 2097151) hHeld ?_ (hy := Or.inl ⟨by rfl, by rintro w' ⟨s0, s1, s2, s3, s4, s5, s6, s7, s8, s9, s10, s11⟩; go_simp; with_reducible rfl⟩)
                   refine one_ (i := 21) (N := some 34) (bitsA 25 4194303) rfl rfl (one_of HT_.out (by kernel_rfl)) (by decide) (fun K hK => ?_)
                   refine goes_ Try.func130 (by kernel_rfl) rfl #[.string ((rd_T147 l0 (ji8)).f0), .string ((rd_T147 l0 x3_1).f0)] (by rfl) rfl rfl (by (try simp only [List.map_toArray, List.map_cons, List.map_nil]); first | done | (simp only [hji8]; rfl) | rfl | (simp only [List.length_drop, List.length_take]; rfl)) ?_
                   with_reducible refine (spec_l02Less.calls k1 ((rd_T147 l0 (ji8)).f0) ((rd_T147 l0 x3_1).f0) true _ A11.out).mono ?_
                   rintro e w' ⟨rfl, ⟨nd, rfl⟩⟩
                   refine ⟨_, rfl, ?_⟩
                   refine hK.out _ _ ⟨(cw hw374_0), (cw hw374_1), (cw hw374_2), (cw hw374_3), (cw hw376_0), (cw hw376_1), (cw hw376_2), (cw hw376_3), (cw hw377_0), (cw hw377_1), (cw hw377_2), (cw hw377_3)⟩ (fun hHeld => ?_)
                   clear hK K
                   refine nm ?_
                   refine pu 22 (some 35) (bitsA 25 8388607) ?_
                   refine pu 23 (some 36) (bitsA 25 16777215) ?_
                   refine pu 24 (some 37) (bitsA 25 33554431) ?_
                   refine done_ (done_of HT_.out (by kernel_rfl)) ?_
                   try go_wp2
                   go_roundg k1
                   case measure => have := HK1.out; omega
                   case rel => exact ⟨(wrap64 (x3_1 + 1)), es, H', ⟨kp⟩, ⟨bl⟩⟩
                 · replace c12 := Bool.eq_false_iff.mpr c12
                   subst c12
                   replace H := iF H
                   obtain rfl := Option.some.inj H
                   try go_wp2
                   replace HB := ak (below_drew1 HB.out)
                   have p374 : 0 ≤ (x3_1 : Int) := of_decide_eq_true am
                   have q374 : x3_1 < (l0.length : Int) := of_decide_eq_true am
                   obtain ⟨ad374, e374, hx374_0, hx374_1, hx374_2, hx374_3⟩ := at_T147 HR0.out x3_1 p374 q374
                   have hw374_3 := hx374_3
                   have hw374_2 := hx374_2
                   have hw374_1 := hx374_1
                   have hw374_0 := hx374_0
                   cases e374
                   replace hx374_0 := cw hx374_0
                   replace hx374_1 := cw hx374_1
                   replace hx374_2 := cw hx374_2
                   replace hx374_3 := cw hx374_3
                   replace p374 := eq_true p374
                   replace q374 := eq_true q374
                   have p376 : 0 ≤ ((ji8) : Int) := of_decide_eq_true am
                   have q376 : (ji8) < (l0.length : Int) := of_decide_eq_true am
                   obtain ⟨ad376, e376, hx376_0, hx376_1, hx376_2, hx376_3⟩ := at_T147 HR0.out (ji8) p376 q376
                   have hw376_3 := hx376_3
                   have hw376_2 := hx376_2
                   have hw376_1 := hx376_1
                   have hw376_0 := hx376_0
                   obtain rfl : ad374 = ad376 := (by injection e376)
                   replace hx376_0 := cw hx376_0
                   replace hx376_1 := cw hx376_1
                   replace hx376_2 := cw hx376_2
                   replace hx376_3 := cw hx376_3
                   replace p376 := eq_true p376
                   replace q376 := eq_true q376
                   have p377 : 0 ≤ (x3_1 : Int) := of_decide_eq_true am
                   have q377 : x3_1 < (l0.length : Int) := of_decide_eq_true am
                   obtain ⟨ad377, e377, hx377_0, hx377_1, hx377_2, hx377_3⟩ := at_T147 HR0.out x3_1 p377 q377
                   have hw377_3 := hx377_3
                   have hw377_2 := hx377_2
                   have hw377_1 := hx377_1
                   have hw377_0 := hx377_0
                   obtain rfl : ad374 = ad377 := (by injection e377)
                   replace hx377_0 := cw hx377_0
                   replace hx377_1 := cw hx377_1
                   replace hx377_2 := cw hx377_2
                   replace hx377_3 := cw hx377_3
                   replace p377 := eq_true p377
                   replace q377 := eq_true q377
                   refine start_ (n := 25) (S := fun w' => w'.cell? (ad374.add ((x3_1).toNat * 4)) = some (.string ((rd_T147 l0 x3_1).f0)) ∧ w'.cell? ⟨(ad374.add ((x3_1).toNat * 4)).block, (ad374.add ((x3_1).toNat * 4)).off + 1, none⟩ = some (.int .i64 ((rd_T147 l0 x3_1).f1)) ∧ w'.cell? ⟨(ad374.add ((x3_1).toNat * 4)).block, (ad374.add ((x3_1).toNat * 4)).off + 2, none⟩ = some (.int .i64 ((rd_T147 l0 x3_1).f2)) ∧ w'.cell? ⟨(ad374.add ((x3_1).toNat * 4)).block, (ad374.add ((x3_1).toNat * 4)).off + 3, none⟩ = some (.bool ((rd_T147 l0 x3_1).f3)) ∧ w'.cell? (ad374.add (((ji8)).toNat * 4)) = some (.string ((rd_T147 l0 (ji8)).f0)) ∧ w'.cell? ⟨(ad374.add (((ji8)).toNat * 4)).block, (ad374.add (((ji8)).toNat * 4)).off + 1, none⟩ = some (.int .i64 ((rd_T147 l0 (ji8)).f1)) ∧ w'.cell? ⟨(ad374.add (((ji8)).toNat * 4)).block, (ad374.add (((ji8)).toNat * 4)).off + 2, none⟩ = some (.int .i64 ((rd_T147 l0 (ji8)).f2)) ∧ w'.cell? ⟨(ad374.add (((ji8)).toNat * 4)).block, (ad374.add (((ji8)).toNat * 4)).off + 3, none⟩ = some (.bool ((rd_T147 l0 (ji8)).f3)) ∧ w'.cell? (ad374.add ((x3_1).toNat * 4)) = some (.string ((rd_T147 l0 x3_1).f0)) ∧ w'.cell? ⟨(ad374.add ((x3_1).toNat * 4)).block, (ad374.add ((x3_1).toNat * 4)).off + 1, none⟩ = some (.int .i64 ((rd_T147 l0 x3_1).f1)) ∧ w'.cell? ⟨(ad374.add ((x3_1).toNat * 4)).block, (ad374.add ((x3_1).toNat * 4)).off + 2, none⟩ = some (.int .i64 ((rd_T147 l0 x3_1).f2)) ∧ w'.cell? ⟨(ad374.add ((x3_1).toNat * 4)).block, (ad374.add ((x3_1).toNat * 4)).off + 3, none⟩ = some (.bool ((rd_T147 l0 x3_1).f3))) (ds := []) (bitsA 25 0) (by kernel_rfl) rfl rfl ⟨(cw hw374_0), (cw hw374_1), (cw hw374_2), (cw hw374_3), (cw hw376_0), (cw hw376_1), (cw hw376_2), (cw hw376_3), (cw hw377_0), (cw hw377_1), (cw hw377_2), (cw hw377_3)⟩ (fun hHeld => ?_); refine with_tabW spec_PodsOk.tab6 spec_PodsOk.bits6 (fun HT_ HW_ => ?_)
                   generalize wr.drew = w15 at HB hx374_0 hx374_1 hx374_2 hx374_3 hx376_0 hx376_1 hx376_2 hx376_3 hx377_0 hx377_1 hx377_2 hx377_3 hHeld ⊢
                   refine pu 0 (some 13) (bitsA 25 1) ?_
                   refine pu 1 (some 14) (bitsA 25 3) ?_
                   refine pu 2 (some 15) (bitsA 25 7) ?_
                   refine tk 3 (some 16) (bitsA 25 15) hHeld ?_ (hy := Or.inl ⟨by rfl, by rintro w' ⟨s0, s1, s2, s3, s4, s5, s6, s7, s8, s9, s10, s11⟩; go_simp; with_reducible rfl⟩)
                   refine one_ (i := 4) (N := some 17) (bitsA 25 31) rfl rfl (one_of HT_.out (by kernel_rfl)) (by decide) (fun K hK => ?_)
                   refine goes_ Try.func137 (by kernel_rfl) rfl #[.agg #[.string ((rd_T147 l0 x3_1).f0), .int .i64 ((rd_T147 l0 x3_1).f1), .int .i64 ((rd_T147 l0 x3_1).f2), .bool ((rd_T147 l0 x3_1).f3)]] (by rfl) rfl rfl mt ?_
                   with_reducible refine (spec_PodOk.calls k1 ((rd_T147 l0 x3_1).f0) ((rd_T147 l0 x3_1).f1) ((rd_T147 l0 x3_1).f2) ((rd_T147 l0 x3_1).f3) true _ A5.out).mono ?_
                   rintro e w16 ⟨rfl, hb⟩
                   refine ⟨_, rfl, ?_⟩
                   replace HB := ak (below_step bl hb)
                   (try clear hb)
                   (try clear hb2)
                   (try clear hk)
                   (try clear hi)
                   refine hK.out _ _ ⟨(cw hw374_0), (cw hw374_1), (cw hw374_2), (cw hw374_3), (cw hw376_0), (cw hw376_1), (cw hw376_2), (cw hw376_3), (cw hw377_0), (cw hw377_1), (cw hw377_2), (cw hw377_3)⟩ (fun hHeld => ?_)
                   clear hK K
                   refine nm ?_
                   refine pu 5 (some 18) (bitsA 25 63) ?_
                   refine pu 6 (some 19) (bitsA 25 127) ?_
                   refine pu 7 (some 20) (bitsA 25 255) ?_
                   refine pu 8 (some 21) (bitsA 25 511) ?_
                   refine pu 9 (some 22) (bitsA 25 1023) ?_
                   refine pu 10 (some 23) (bitsA 25 2047) ?_
                   refine pu 11 (some 24) (bitsA 25 4095) ?_
                   refine pu 12 (some 25) (bitsA 25 8191) ?_
                   refine pu 13 (some 26) (bitsA 25 16383) ?_
                   refine pu 14 (some 27) (bitsA 25 32767) ?_
                   refine tk 15 (some 28) (bitsA 25 65535) hHeld ?_ (hy := Or.inl ⟨by rfl, by rintro w' ⟨s0, s1, s2, s3, s4, s5, s6, s7, s8, s9, s10, s11⟩; go_simp; with_reducible rfl⟩)
                   refine pu 16 (some 29) (bitsA 25 131071) ?_
                   refine pu 17 (some 30) (bitsA 25 262143) ?_
                   refine pu 18 (some 31) (bitsA 25 524287) ?_
                   refine pu 19 (some 32) (bitsA 25 1048575) ?_
                   refine tk 20 (some 33) (bitsA 25 2097151) hHeld ?_ (hy := Or.inl ⟨by rfl, by rintro w' ⟨s0, s1, s2, s3, s4, s5, s6, s7, s8, s9, s10, s11⟩; go_simp; with_reducible rfl⟩)
                   refine one_ (i := 21) (N := some 34) (bitsA 25 4194303) rfl rfl (one_of HT_.out (by kernel_rfl)) (by decide) (fun K hK => ?_)
                   refine goes_ Try.func130 (by kernel_rfl) rfl #[.string ((rd_T147 l0 (ji8)).f0), .string ((rd_T147 l0 x3_1).f0)] (by rfl) rfl rfl (by (try simp only [List.map_toArray, List.map_cons, List.map_nil]); first | done | (simp only [hji8]; rfl) | rfl | (simp only [List.length_drop, List.length_take]; rfl)) ?_
                   with_reducible refine (spec_l02Less.calls k1 ((rd_T147 l0 (ji8)).f0) ((rd_T147 l0 x3_1).f0) false _ A11.out).mono ?_
                   rintro e w' ⟨rfl, ⟨nd, rfl⟩⟩
                   refine ⟨_, rfl, ?_⟩
                   refine hK.out _ _ ⟨(cw hw374_0), (cw hw374_1), (cw hw374_2), (cw hw374_3), (cw hw376_0), (cw hw376_1), (cw hw376_2), (cw hw376_3), (cw hw377_0), (cw hw377_1), (cw hw377_2), (cw hw377_3)⟩ (fun hHeld => ?_)
                   clear hK K
                   refine nm ?_
                   refine pu 22 (some 35) (bitsA 25 8388607) ?_
                   refine pu 23 (some 36) (bitsA 25 16777215) ?_
                   refine pu 24 (some 37) (bitsA 25 33554431) ?_
                   refine done_ (done_of HT_.out (by kernel_rfl)) ?_
                   try go_wp2
                   go_ret
                   exact ⟨by first | rfl | (simp [errW_none, errW_some] <;> rfl) | (simp only [← hji8]; first | rfl | (simp [errW_none, errW_some] <;> rfl)) | (simp [*, errW_none, errW_some] <;> rfl), bl⟩
               · rw [if_neg c10] at H
                 exact absurd H (by simp)
             · rw [if_neg c9] at H
               exact absurd H (by simp)
           · rw [if_neg c7] at H
             have c7b0 : decide (0 < x3_1) = false := decide_eq_false c7
             clear c7
             have H' := Aside0.mk H
             clear H
             try go_wp2
             replace HB := ak (below_drew1 HB.out)
             have p374 : 0 ≤ (x3_1 : Int) := of_decide_eq_true am
             have q374 : x3_1 < (l0.length : Int) := of_decide_eq_true am
             obtain ⟨ad374, e374, hx374_0, hx374_1, hx374_2, hx374_3⟩ := at_T147 HR0.out x3_1 p374 q374
             have hw374_3 := hx374_3
             have hw374_2 := hx374_2
             have hw374_1 := hx374_1
             have hw374_0 := hx374_0
             cases e374
             replace hx374_0 := cw hx374_0
             replace hx374_1 := cw hx374_1
             replace hx374_2 := cw hx374_2
             replace hx374_3 := cw hx374_3
             replace p374 := eq_true p374
             replace q374 := eq_true q374
             refine start_ (n := 25) (S := fun w' => w'.cell? (ad374.add ((x3_1).toNat * 4)) = some (.string ((rd_T147 l0 x3_1).f0)) ∧ w'.cell? ⟨(ad374.add ((x3_1).toNat * 4)).block, (ad374.add ((x3_1).toNat * 4)).off + 1, none⟩ = some (.int .i64 ((rd_T147 l0 x3_1).f1)) ∧ w'.cell? ⟨(ad374.add ((x3_1).toNat * 4)).block, (ad374.add ((x3_1).toNat * 4)).off + 2, none⟩ = some (.int .i64 ((rd_T147 l0 x3_1).f2)) ∧ w'.cell? ⟨(ad374.add ((x3_1).toNat * 4)).block, (ad374.add ((x3_1).toNat * 4)).off + 3, none⟩ = some (.bool ((rd_T147 l0 x3_1).f3))) (ds := []) (bitsA 25 0) (by kernel_rfl) rfl rfl ⟨(cw hw374_0), (cw hw374_1), (cw hw374_2), (cw hw374_3)⟩ (fun hHeld => ?_); refine with_tabW spec_PodsOk.tab6 spec_PodsOk.bits6 (fun HT_ HW_ => ?_)
             generalize wr.drew = w17 at HB hx374_0 hx374_1 hx374_2 hx374_3 hHeld ⊢
             refine pu 0 (some 13) (bitsA 25 1) ?_
             refine pu 1 (some 14) (bitsA 25 3) ?_
             refine pu 2 (some 15) (bitsA 25 7) ?_
             refine tk 3 (some 16) (bitsA 25 15) hHeld ?_ (hy := Or.inl ⟨by rfl, by rintro w' ⟨s0, s1, s2, s3⟩; go_simp; with_reducible rfl⟩)
             refine one_ (i := 4) (N := some 17) (bitsA 25 31) rfl rfl (one_of HT_.out (by kernel_rfl)) (by decide) (fun K hK => ?_)
             refine goes_ Try.func137 (by kernel_rfl) rfl #[.agg #[.string ((rd_T147 l0 x3_1).f0), .int .i64 ((rd_T147 l0 x3_1).f1), .int .i64 ((rd_T147 l0 x3_1).f2), .bool ((rd_T147 l0 x3_1).f3)]] (by rfl) rfl rfl mt ?_
             with_reducible refine (spec_PodOk.calls k1 ((rd_T147 l0 x3_1).f0) ((rd_T147 l0 x3_1).f1) ((rd_T147 l0 x3_1).f2) ((rd_T147 l0 x3_1).f3) true _ A5.out).mono ?_
             rintro e w18 ⟨rfl, hb⟩
             refine ⟨_, rfl, ?_⟩
             replace HB := ak (below_step bl hb)
             (try clear hb)
             (try clear hb2)
             (try clear hk)
             (try clear hi)
             refine hK.out _ _ ⟨(cw hw374_0), (cw hw374_1), (cw hw374_2), (cw hw374_3)⟩ (fun hHeld => ?_)
             clear hK K
             refine nm ?_
             refine pu 5 (some 18) (bitsA 25 63) ?_
             refine pu 6 (some 19) (bitsA 25 127) ?_
             refine pu 7 (some 20) (bitsA 25 255) ?_
             refine pu 8 (some 21) (bitsA 25 511) ?_
             refine pu 9 (some 22) (bitsA 25 1023) ?_
             refine pure_ (i := 10) (N := some 23) (v := undef) (a' := ?_) (bitsA 25 2047) rfl rfl (any_of HT_.out (by kernel_rfl)) (fun _ _ _ h => h) (Or.inr ⟨by rfl, rfl⟩) ?_ ?_; rotate_left; (· (simp only [Act.put, List.setIfInBounds_toArray, List.set_cons_zero, List.set_cons_succ, i64_w, i32_w]; rfl))
             refine pure_ (i := 11) (N := some 24) (v := undef) (a' := ?_) (bitsA 25 4095) rfl rfl (any_of HT_.out (by kernel_rfl)) (fun _ _ _ h => h) (Or.inr ⟨by rfl, rfl⟩) ?_ ?_; rotate_left; (· (simp only [Act.put, List.setIfInBounds_toArray, List.set_cons_zero, List.set_cons_succ, i64_w, i32_w]; rfl))
             refine pure_ (i := 12) (N := some 25) (v := undef) (a' := ?_) (bitsA 25 8191) rfl rfl (any_of HT_.out (by kernel_rfl)) (fun _ _ _ h => h) (Or.inr ⟨by rfl, rfl⟩) ?_ ?_; rotate_left; (· (simp only [Act.put, List.setIfInBounds_toArray, List.set_cons_zero, List.set_cons_succ, i64_w, i32_w]; rfl))
             refine pure_ (i := 13) (N := some 26) (v := undef) (a' := ?_) (bitsA 25 16383) rfl rfl (any_of HT_.out (by kernel_rfl)) (fun _ _ _ h => h) (Or.inr ⟨by rfl, rfl⟩) ?_ ?_; rotate_left; (· (simp only [Act.put, List.setIfInBounds_toArray, List.set_cons_zero, List.set_cons_succ, i64_w, i32_w]; rfl))
             refine pure_ (i := 14) (N := some 27) (v := undef) (a' := ?_) (bitsA 25 32767) rfl rfl (any_of HT_.out (by kernel_rfl)) (fun _ _ _ h => h) (Or.inr ⟨by rfl, rfl⟩) ?_ ?_; rotate_left; (· (simp only [Act.put, List.setIfInBounds_toArray, List.set_cons_zero, List.set_cons_succ, i64_w, i32_w]; rfl))
             refine pure_ (i := 15) (N := some 28) (v := undef) (a' := ?_) (bitsA 25 65535) rfl rfl (any_of HT_.out (by kernel_rfl)) (fun _ _ _ h => h) (Or.inr ⟨by rfl, rfl⟩) ?_ ?_; rotate_left; (· (simp only [Act.put, List.setIfInBounds_toArray, List.set_cons_zero, List.set_cons_succ, i64_w, i32_w]; rfl))
             refine pure_ (i := 16) (N := some 29) (v := undef) (a' := ?_) (bitsA 25 131071) rfl rfl (any_of HT_.out (by kernel_rfl)) (fun _ _ _ h => h) (Or.inr ⟨by rfl, rfl⟩) ?_ ?_; rotate_left; (· (simp only [Act.put, List.setIfInBounds_toArray, List.set_cons_zero, List.set_cons_succ, i64_w, i32_w]; rfl))
             refine pure_ (i := 17) (N := some 30) (v := undef) (a' := ?_) (bitsA 25 262143) rfl rfl (any_of HT_.out (by kernel_rfl)) (fun _ _ _ h => h) (Or.inr ⟨by rfl, rfl⟩) ?_ ?_; rotate_left; (· (simp only [Act.put, List.setIfInBounds_toArray, List.set_cons_zero, List.set_cons_succ, i64_w, i32_w]; rfl))
             refine pure_ (i := 18) (N := some 31) (v := undef) (a' := ?_) (bitsA 25 524287) rfl rfl (any_of HT_.out (by kernel_rfl)) (fun _ _ _ h => h) (Or.inr ⟨by rfl, rfl⟩) ?_ ?_; rotate_left; (· (simp only [Act.put, List.setIfInBounds_toArray, List.set_cons_zero, List.set_cons_succ, i64_w, i32_w]; rfl))
             refine pure_ (i := 19) (N := some 32) (v := undef) (a' := ?_) (bitsA 25 1048575) rfl rfl (any_of HT_.out (by kernel_rfl)) (fun _ _ _ h => h) (Or.inr ⟨by rfl, rfl⟩) ?_ ?_; rotate_left; (· (simp only [Act.put, List.setIfInBounds_toArray, List.set_cons_zero, List.set_cons_succ, i64_w, i32_w]; rfl))
             refine pure_ (i := 20) (N := some 33) (v := undef) (a' := ?_) (bitsA 25 2097151) rfl rfl (any_of HT_.out (by kernel_rfl)) (fun _ _ _ h => h) (Or.inr ⟨by rfl, rfl⟩) ?_ ?_; rotate_left; (· (simp only [Act.put, List.setIfInBounds_toArray, List.set_cons_zero, List.set_cons_succ, i64_w, i32_w]; rfl))
             refine pure_ (i := 21) (N := some 34) (v := undef) (a' := ?_) (bitsA 25 4194303) rfl rfl (any_of HT_.out (by kernel_rfl)) (fun _ _ _ h => h) (Or.inr ⟨by rfl, rfl⟩) ?_ ?_; rotate_left; (· (simp only [Act.put, List.setIfInBounds_toArray, List.set_cons_zero, List.set_cons_succ, i64_w, i32_w]; rfl))
             refine pure_ (i := 22) (N := some 35) (v := undef) (a' := ?_) (bitsA 25 8388607) rfl rfl (any_of HT_.out (by kernel_rfl)) (fun _ _ _ h => h) (Or.inr ⟨by rfl, rfl⟩) ?_ ?_; rotate_left; (· (simp only [Act.put, List.setIfInBounds_toArray, List.set_cons_zero, List.set_cons_succ, i64_w, i32_w]; rfl))
             refine pu 23 (some 36) (bitsA 25 16777215) ?_
             refine pu 24 (some 37) (bitsA 25 33554431) ?_
             refine done_ (done_of HT_.out (by kernel_rfl)) ?_
             try go_wp2
             go_roundg k1
             case measure => have := HK1.out; omega
             case rel => exact ⟨(wrap64 (x3_1 + 1)), es, H', ⟨kp⟩, ⟨bl⟩⟩
         · replace c6 := Bool.eq_false_iff.mpr c6
           subst c6
           replace H := iF H
           obtain rfl := Option.some.inj H
           try go_wp2
           replace HB := ak (below_drew1 HB.out)
           have p374 : 0 ≤ (x3_1 : Int) := of_decide_eq_true am
           have q374 : x3_1 < (l0.length : Int) := of_decide_eq_true am
           obtain ⟨ad374, e374, hx374_0, hx374_1, hx374_2, hx374_3⟩ := at_T147 HR0.out x3_1 p374 q374
           have hw374_3 := hx374_3
           have hw374_2 := hx374_2
           have hw374_1 := hx374_1
           have hw374_0 := hx374_0
           cases e374
           replace hx374_0 := cw hx374_0
           replace hx374_1 := cw hx374_1
           replace hx374_2 := cw hx374_2
           replace hx374_3 := cw hx374_3
           replace p374 := eq_true p374
           replace q374 := eq_true q374
           refine start_ (n := 25) (S := fun w' => w'.cell? (ad374.add ((x3_1).toNat * 4)) = some (.string ((rd_T147 l0 x3_1).f0)) ∧ w'.cell? ⟨(ad374.add ((x3_1).toNat * 4)).block, (ad374.add ((x3_1).toNat * 4)).off + 1, none⟩ = some (.int .i64 ((rd_T147 l0 x3_1).f1)) ∧ w'.cell? ⟨(ad374.add ((x3_1).toNat * 4)).block, (ad374.add ((x3_1).toNat * 4)).off + 2, none⟩ = some (.int .i64 ((rd_T147 l0 x3_1).f2)) ∧ w'.cell? ⟨(ad374.add ((x3_1).toNat * 4)).block, (ad374.add ((x3_1).toNat * 4)).off + 3, none⟩ = some (.bool ((rd_T147 l0 x3_1).f3))) (ds := []) (bitsA 25 0) (by kernel_rfl) rfl rfl ⟨(cw hw374_0), (cw hw374_1), (cw hw374_2), (cw hw374_3)⟩ (fun hHeld => ?_); refine with_tabW spec_PodsOk.tab6 spec_PodsOk.bits6 (fun HT_ HW_ => ?_)
           generalize wr.drew = w19 at HB hx374_0 hx374_1 hx374_2 hx374_3 hHeld ⊢
           refine pu 0 (some 13) (bitsA 25 1) ?_
           refine pu 1 (some 14) (bitsA 25 3) ?_
           refine pu 2 (some 15) (bitsA 25 7) ?_
           refine tk 3 (some 16) (bitsA 25 15) hHeld ?_ (hy := Or.inl ⟨by rfl, by rintro w' ⟨s0, s1, s2, s3⟩; go_simp; with_reducible rfl⟩)
           refine one_ (i := 4) (N := some 17) (bitsA 25 31) rfl rfl (one_of HT_.out (by kernel_rfl)) (by decide) (fun K hK => ?_)
           refine goes_ Try.func137 (by kernel_rfl) rfl #[.agg #[.string ((rd_T147 l0 x3_1).f0), .int .i64 ((rd_T147 l0 x3_1).f1), .int .i64 ((rd_T147 l0 x3_1).f2), .bool ((rd_T147 l0 x3_1).f3)]] (by rfl) rfl rfl mt ?_
           with_reducible refine (spec_PodOk.calls k1 ((rd_T147 l0 x3_1).f0) ((rd_T147 l0 x3_1).f1) ((rd_T147 l0 x3_1).f2) ((rd_T147 l0 x3_1).f3) false _ A5.out).mono ?_
           rintro e w20 ⟨rfl, hb⟩
           refine ⟨_, rfl, ?_⟩
           replace HB := ak (below_step bl hb)
           (try clear hb)
           (try clear hb2)
           (try clear hk)
           (try clear hi)
           refine hK.out _ _ ⟨(cw hw374_0), (cw hw374_1), (cw hw374_2), (cw hw374_3)⟩ (fun hHeld => ?_)
           clear hK K
           refine nm ?_
           refine pu 5 (some 18) (bitsA 25 63) ?_
           refine pu 6 (some 19) (bitsA 25 127) ?_
           refine pure_ (i := 7) (N := some 20) (v := undef) (a' := ?_) (bitsA 25 255) rfl rfl (any_of HT_.out (by kernel_rfl)) (fun _ _ _ h => h) (Or.inr ⟨by rfl, rfl⟩) ?_ ?_; rotate_left; (· (simp only [Act.put, List.setIfInBounds_toArray, List.set_cons_zero, List.set_cons_succ, i64_w, i32_w]; rfl))
           refine pure_ (i := 8) (N := some 21) (v := undef) (a' := ?_) (bitsA 25 511) rfl rfl (any_of HT_.out (by kernel_rfl)) (fun _ _ _ h => h) (Or.inr ⟨by rfl, rfl⟩) ?_ ?_; rotate_left; (· (simp only [Act.put, List.setIfInBounds_toArray, List.set_cons_zero, List.set_cons_succ, i64_w, i32_w]; rfl))
           refine pure_ (i := 9) (N := some 22) (v := undef) (a' := ?_) (bitsA 25 1023) rfl rfl (any_of HT_.out (by kernel_rfl)) (fun _ _ _ h => h) (Or.inr ⟨by rfl, rfl⟩) ?_ ?_; rotate_left; (· (simp only [Act.put, List.setIfInBounds_toArray, List.set_cons_zero, List.set_cons_succ, i64_w, i32_w]; rfl))
           refine pure_ (i := 10) (N := some 23) (v := undef) (a' := ?_) (bitsA 25 2047) rfl rfl (any_of HT_.out (by kernel_rfl)) (fun _ _ _ h => h) (Or.inr ⟨by rfl, rfl⟩) ?_ ?_; rotate_left; (· (simp only [Act.put, List.setIfInBounds_toArray, List.set_cons_zero, List.set_cons_succ, i64_w, i32_w]; rfl))
           refine pure_ (i := 11) (N := some 24) (v := undef) (a' := ?_) (bitsA 25 4095) rfl rfl (any_of HT_.out (by kernel_rfl)) (fun _ _ _ h => h) (Or.inr ⟨by rfl, rfl⟩) ?_ ?_; rotate_left; (· (simp only [Act.put, List.setIfInBounds_toArray, List.set_cons_zero, List.set_cons_succ, i64_w, i32_w]; rfl))
           refine pure_ (i := 12) (N := some 25) (v := undef) (a' := ?_) (bitsA 25 8191) rfl rfl (any_of HT_.out (by kernel_rfl)) (fun _ _ _ h => h) (Or.inr ⟨by rfl, rfl⟩) ?_ ?_; rotate_left; (· (simp only [Act.put, List.setIfInBounds_toArray, List.set_cons_zero, List.set_cons_succ, i64_w, i32_w]; rfl))
           refine pure_ (i := 13) (N := some 26) (v := undef) (a' := ?_) (bitsA 25 16383) rfl rfl (any_of HT_.out (by kernel_rfl)) (fun _ _ _ h => h) (Or.inr ⟨by rfl, rfl⟩) ?_ ?_; rotate_left; (· (simp only [Act.put, List.setIfInBounds_toArray, List.set_cons_zero, List.set_cons_succ, i64_w, i32_w]; rfl))
           refine pure_ (i := 14) (N := some 27) (v := undef) (a' := ?_) (bitsA 25 32767) rfl rfl (any_of HT_.out (by kernel_rfl)) (fun _ _ _ h => h) (Or.inr ⟨by rfl, rfl⟩) ?_ ?_; rotate_left; (· (simp only [Act.put, List.setIfInBounds_toArray, List.set_cons_zero, List.set_cons_succ, i64_w, i32_w]; rfl))
           refine pure_ (i := 15) (N := some 28) (v := undef) (a' := ?_) (bitsA 25 65535) rfl rfl (any_of HT_.out (by kernel_rfl)) (fun _ _ _ h => h) (Or.inr ⟨by rfl, rfl⟩) ?_ ?_; rotate_left; (· (simp only [Act.put, List.setIfInBounds_toArray, List.set_cons_zero, List.set_cons_succ, i64_w, i32_w]; rfl))
           refine pure_ (i := 16) (N := some 29) (v := undef) (a' := ?_) (bitsA 25 131071) rfl rfl (any_of HT_.out (by kernel_rfl)) (fun _ _ _ h => h) (Or.inr ⟨by rfl, rfl⟩) ?_ ?_; rotate_left; (· (simp only [Act.put, List.setIfInBounds_toArray, List.set_cons_zero, List.set_cons_succ, i64_w, i32_w]; rfl))
           refine pure_ (i := 17) (N := some 30) (v := undef) (a' := ?_) (bitsA 25 262143) rfl rfl (any_of HT_.out (by kernel_rfl)) (fun _ _ _ h => h) (Or.inr ⟨by rfl, rfl⟩) ?_ ?_; rotate_left; (· (simp only [Act.put, List.setIfInBounds_toArray, List.set_cons_zero, List.set_cons_succ, i64_w, i32_w]; rfl))
           refine pure_ (i := 18) (N := some 31) (v := undef) (a' := ?_) (bitsA 25 524287) rfl rfl (any_of HT_.out (by kernel_rfl)) (fun _ _ _ h => h) (Or.inr ⟨by rfl, rfl⟩) ?_ ?_; rotate_left; (· (simp only [Act.put, List.setIfInBounds_toArray, List.set_cons_zero, List.set_cons_succ, i64_w, i32_w]; rfl))
           refine pure_ (i := 19) (N := some 32) (v := undef) (a' := ?_) (bitsA 25 1048575) rfl rfl (any_of HT_.out (by kernel_rfl)) (fun _ _ _ h => h) (Or.inr ⟨by rfl, rfl⟩) ?_ ?_; rotate_left; (· (simp only [Act.put, List.setIfInBounds_toArray, List.set_cons_zero, List.set_cons_succ, i64_w, i32_w]; rfl))
           refine pure_ (i := 20) (N := some 33) (v := undef) (a' := ?_) (bitsA 25 2097151) rfl rfl (any_of HT_.out (by kernel_rfl)) (fun _ _ _ h => h) (Or.inr ⟨by rfl, rfl⟩) ?_ ?_; rotate_left; (· (simp only [Act.put, List.setIfInBounds_toArray, List.set_cons_zero, List.set_cons_succ, i64_w, i32_w]; rfl))
           refine pure_ (i := 21) (N := some 34) (v := undef) (a' := ?_) (bitsA 25 4194303) rfl rfl (any_of HT_.out (by kernel_rfl)) (fun _ _ _ h => h) (Or.inr ⟨by rfl, rfl⟩) ?_ ?_; rotate_left; (· (simp only [Act.put, List.setIfInBounds_toArray, List.set_cons_zero, List.set_cons_succ, i64_w, i32_w]; rfl))
           refine pure_ (i := 22) (N := some 35) (v := undef) (a' := ?_) (bitsA 25 8388607) rfl rfl (any_of HT_.out (by kernel_rfl)) (fun _ _ _ h => h) (Or.inr ⟨by rfl, rfl⟩) ?_ ?_; rotate_left; (· (simp only [Act.put, List.setIfInBounds_toArray, List.set_cons_zero, List.set_cons_succ, i64_w, i32_w]; rfl))
           refine pure_ (i := 23) (N := some 36) (v := undef) (a' := ?_) (bitsA 25 16777215) rfl rfl (any_of HT_.out (by kernel_rfl)) (fun _ _ _ h => h) (Or.inr ⟨by rfl, rfl⟩) ?_ ?_; rotate_left; (· (simp only [Act.put, List.setIfInBounds_toArray, List.set_cons_zero, List.set_cons_succ, i64_w, i32_w]; rfl))
           refine pu 24 (some 37) (bitsA 25 33554431) ?_
           refine done_ (done_of HT_.out (by kernel_rfl)) ?_
           try go_wp2
           go_ret
           exact ⟨ew, bl⟩
       · rw [if_neg c4] at H
         exact absurd H (by simp)
     · rw [if_neg c3] at H
       have c3b0 : decide (x3_1 < (l0.length : Int)) = false := decide_eq_false c3
       clear c3
       obtain rfl := Option.some.inj H
       go_wp2
       go_ret
       exact ⟨ew, bl⟩

end Go.Proofs.Ytplekidnlofioaa.Q
namespace Go.Proofs.Ytplekidnlofioaa.Q
open Go.RowKit Go.Proofs.YtplekidnlofioaaW.PrintWords Go.Proofs.YtplekidnlofioaaW.PrintLast Go.Proofs.YtplekidnlofioaaW.PrintMore
attribute [local go_sem] max2_int min2_int max_two min_two max_three min_three max_four min_four   -- for this text's walks alone
set_option linter.unusedVariables false
set_option linter.unusedSimpArgs false

/-! ### spec_LatestOf: function 103 -/
def spec_LatestOf.f (k : Nat) (l0 : List (S81)) (a1 : ByteArray) (a2 : ByteArray) : Option (Int × Int × Bool) := (spec_SeriesOf.f k l0 a1 a2).bind fun bt388 => (if bt388.2 = true then (if 0 ≤ (wrap64 ((bt388.1.length : Int) - 1)) then (if (wrap64 ((bt388.1.length : Int) - 1)) < (bt388.1.length : Int) then (some ((rd_T37 bt388.1 (wrap64 ((bt388.1.length : Int) - 1))).f0, (rd_T37 bt388.1 (wrap64 ((bt388.1.length : Int) - 1))).f1, true)) else (none)) else (none)) else (some (0, 0, false)))
theorem spec_LatestOf.mono : ∀ a0 a1 a2 k, LeO (spec_LatestOf.f k a0 a1 a2) (spec_LatestOf.f (k + 1) a0 a1 a2) := by
 intro a0 a1 a2 k
 unfold spec_LatestOf.f
 repeat' first
  | (with_reducible exact spec_SeriesOf.mono _ _ _ _)
  | (with_reducible exact LeO.refl _)
  | (with_reducible exact LeO.none _)
  | (with_reducible refine LeO.ite ?_ ?_)
  | (with_reducible refine LeO.bind ?_ (fun _ => ?_))
  | exact spec_SeriesOf.mono _ _ _ _
  | exact LeO.none _
  | refine LeO.ite ?_ ?_
  | refine LeO.bind ?_ (fun _ => ?_)
set_option maxHeartbeats 8000000 in
set_option maxRecDepth 100000 in
theorem spec_LatestOf.calls (k : Nat) (A0 : Option Addr) (c0 : Nat) (l0 : List (S81)) (a1 : ByteArray) (a2 : ByteArray) (r1 : Int) (r2 : Int) (r3 : Bool) (w : World) (hr0 : Kd.C k81 w A0 l0.length l0) (hc0 : l0.length ≤ c0) (h : spec_LatestOf.f k l0 a1 a2 = some (r1, r2, r3)) :
 Calls Try.prog 103 #[.slice A0 l0.length c0, .string a1, .string a2] w fun e w' => e = .returned (.tuple #[.agg #[.int .i64 r1, .int .i64 r2], .bool r3]) ∧ Below w.heap.size w w' := by
 have hu37 := Try.underlying37
 have HR0 := Aside0.mk hr0
 have HC0 := Aside0.mk hc0
 clear hr0 hc0
 have HB := Aside0.mk (Below.refl w.heap.size w)
 have H : ((spec_SeriesOf.f k l0 a1 a2).bind fun bt388 => (if bt388.2 = true then (if 0 ≤ (wrap64 ((bt388.1.length : Int) - 1)) then (if (wrap64 ((bt388.1.length : Int) - 1)) < (bt388.1.length : Int) then (some ((rd_T37 bt388.1 (wrap64 ((bt388.1.length : Int) - 1))).f0, (rd_T37 bt388.1 (wrap64 ((bt388.1.length : Int) - 1))).f1, true)) else (none)) else (none)) else (some (0, 0, false)))) = some (r1, r2, r3) := h
 clear h
 replace H := Option.bind_eq_some_iff.mp H
 obtain ⟨⟨t388, t389⟩, A40, H⟩ := H
 replace H : (if t389 = true then (if 0 ≤ (wrap64 ((t388.length : Int) - 1)) then (if (wrap64 ((t388.length : Int) - 1)) < (t388.length : Int) then (some ((rd_T37 t388 (wrap64 ((t388.length : Int) - 1))).f0, (rd_T37 t388 (wrap64 ((t388.length : Int) - 1))).f1, true)) else (none)) else (none)) else (some (0, 0, false))) = some (r1, r2, r3) := H
 have A4 := Aside0.mk A40
 clear A40
 by_cases c5 : t389 = true
 · subst c5
   replace H := iT H
   obtain ⟨ji6, hji6⟩ : ∃ j_ : Int, (wrap64 ((t388.length : Int) - 1)) = j_ := ⟨_, rfl⟩
   replace H : (if 0 ≤ (ji6) then (if (ji6) < (t388.length : Int) then (some ((rd_T37 t388 (ji6)).f0, (rd_T37 t388 (ji6)).f1, true)) else (none)) else (none)) = some (r1, r2, r3) := by first | (rw [hji6] at H; exact H) | (simp only [hji6] at H ⊢; exact H)
   (try rw [hji6] at A4)
   have hji6w : (IntKind.i64.wrap ((t388.length : Int) - 1)) = ji6 := (i64_w _).trans hji6
   by_cases c7 : 0 ≤ (ji6)
   · rw [if_pos c7] at H
     have c7b0 : decide (0 ≤ (ji6)) = true := decide_eq_true c7
     clear c7
     by_cases c8 : (ji6) < (t388.length : Int)
     · rw [if_pos c8] at H
       have c8b0 : decide ((ji6) < (t388.length : Int)) = true := decide_eq_true c8
       clear c8
       simp only [Option.some.injEq, Prod.mk.injEq] at H
       obtain ⟨rfl, rfl, rfl⟩ := H
       go_enter Try.func103, Try.ntmps103
       go_wp2_with (first | ((with_reducible refine gate_dst (N := 6) rfl ?_); refine bx 6 #[.int .i64 0, .int .i64 0] 37 ?_; intro gb387 hg w9 hbox hb; have BK387 := ak hbox; have GW387 := gs hg bl; have GE387 := gs hg bl; replace HB := ak (below_step bl hb); clear hb hbox hg) | ((with_reducible refine gate_callee (f := 154) rfl ?_); refine gl (some 14) Try.func154 #[.slice A0 l0.length c0, .string a1, .string a2] ?_; (with_reducible refine (spec_SeriesOf.calls k _ _ l0 a1 a2 t388 true _ ?side1 ?side2 A4.out).mono ?_); (case side1 => exact cb HR0); (case side2 => exact HC0.out); rintro e w10 ⟨v390, rfl, ho0, hb⟩; refine ⟨_, rfl, ?_⟩; have HO391 := ak (Kd.R_lower (Kd.R_newB ho0 (g := gb387) (o := .cells #[.int .i64 0, .int .i64 0] 37 (0, 0)) (bk BK387)) (below_size (bl1 GE387))); replace BK387 := bb BK387 hb; replace HB := ak (below_step (bl1 GE387) hb); (try clear hb); (try clear hb2); (try clear hk); (try clear hi); (try clear ho0); obtain ⟨Ao11, co11, eo11⟩ := Kd.R_slice HO391.out; subst eo11; have p392 : 0 ≤ ((ji6) : Int) := of_decide_eq_true am; have q392 : (ji6) < (t388.length : Int) := of_decide_eq_true am; obtain ⟨ad392, e392, hx392_0, hx392_1⟩ := at_T37 (Kd.R_reads' HO391.out).2.2 (ji6) p392 q392; cases e392; replace p392 := eq_true p392; replace q392 := eq_true q392; obtain ⟨hcz12_0, hcz12_1, hfz12_0, hfz12_1⟩ := cz2 BK387))
       refine bodyPost_ret (results_ct rfl _ _ gb387 37 #[.int .i64 ((rd_T37 t388 (ji6)).f0), .int .i64 ((rd_T37 t388 (ji6)).f1)] (0, 0) _ rfl (by (with_reducible repeat (first | refine blk_drewN ?_ _ | refine blk_drew ?_ | refine blk_alloc ?_ _)); refine blk_put (cs := #[.int .i64 ((rd_T37 t388 (ji6)).f0), .int .i64 0]) ?_ 1 _ rfl; (with_reducible repeat (first | refine blk_drewN ?_ _ | refine blk_drew ?_ | refine blk_alloc ?_ _)); refine blk_put (cs := #[.int .i64 0, .int .i64 0]) ?_ 0 _ rfl; (with_reducible repeat (first | refine blk_drewN ?_ _ | refine blk_drew ?_ | refine blk_alloc ?_ _)); exact BK387.out) Try.underlying37 rfl (by kernel_rfl)) rfl ?_
       exact ⟨by first | rfl | (simp [errW_none, errW_some] <;> rfl) | (simp only [← hji6]; first | rfl | (simp [errW_none, errW_some] <;> rfl)) | (simp [*, errW_none, errW_some] <;> rfl), bl1 GE387⟩
     · rw [if_neg c8] at H
       exact absurd H (by simp)
   · rw [if_neg c7] at H
     exact absurd H (by simp)
 · replace c5 := Bool.eq_false_iff.mpr c5
   subst c5
   replace H := iF H
   simp only [Option.some.injEq, Prod.mk.injEq] at H
   obtain ⟨rfl, rfl, rfl⟩ := H
   go_enter Try.func103, Try.ntmps103
   go_wp2_with (first | ((with_reducible refine gate_dst (N := 6) rfl ?_); refine bx 6 #[.int .i64 0, .int .i64 0] 37 ?_; intro gb387 hg w13 hbox hb; have BK387 := ak hbox; have GW387 := gs hg bl; have GE387 := gs hg bl; replace HB := ak (below_step bl hb); clear hb hbox hg) | ((with_reducible refine gate_callee (f := 154) rfl ?_); refine gl (some 14) Try.func154 #[.slice A0 l0.length c0, .string a1, .string a2] ?_; (with_reducible refine (spec_SeriesOf.calls k _ _ l0 a1 a2 t388 false _ ?side1 ?side2 A4.out).mono ?_); (case side1 => exact cb HR0); (case side2 => exact HC0.out); rintro e w14 ⟨v390, rfl, ho0, hb⟩; refine ⟨_, rfl, ?_⟩; have HO391 := ak (Kd.R_lower (Kd.R_newB ho0 (g := gb387) (o := .cells #[.int .i64 0, .int .i64 0] 37 (0, 0)) (bk BK387)) (below_size (bl1 GE387))); replace BK387 := bb BK387 hb; replace HB := ak (below_step (bl1 GE387) hb); (try clear hb); (try clear hb2); (try clear hk); (try clear hi); (try clear ho0); obtain ⟨hcz15_0, hcz15_1, hfz15_0, hfz15_1⟩ := cz2 BK387))
   refine bodyPost_ret (results_ct rfl _ _ gb387 37 #[.int .i64 0, .int .i64 0] (0, 0) _ rfl (by (with_reducible repeat (first | refine blk_drewN ?_ _ | refine blk_drew ?_ | refine blk_alloc ?_ _)); refine blk_put (cs := #[.int .i64 0, .int .i64 0]) ?_ 1 _ rfl; (with_reducible repeat (first | refine blk_drewN ?_ _ | refine blk_drew ?_ | refine blk_alloc ?_ _)); refine blk_put (cs := #[.int .i64 0, .int .i64 0]) ?_ 0 _ rfl; (with_reducible repeat (first | refine blk_drewN ?_ _ | refine blk_drew ?_ | refine blk_alloc ?_ _)); exact BK387.out) Try.underlying37 rfl (by kernel_rfl)) rfl ?_
   exact ⟨ew, bl1 GE387⟩

end Go.Proofs.Ytplekidnlofioaa.Q
namespace Go.Proofs.Ytplekidnlofioaa.Q
open Go.RowKit Go.Proofs.YtplekidnlofioaaW.PrintWords Go.Proofs.YtplekidnlofioaaW.PrintLast Go.Proofs.YtplekidnlofioaaW.PrintMore
attribute [local go_sem] max2_int min2_int max_two min_two max_three min_three max_four min_four   -- for this text's walks alone
set_option linter.unusedVariables false
set_option linter.unusedSimpArgs false

/-! ### spec_RulesOk: function 138 -/
def spec_RulesOk.f (a0_0 : Int) (a0_1 : Int) (a0_2 : Int) : Option (Bool) := (spec_l01In.f a0_0 0 1000).bind fun t394 => (if t394 = true then ((spec_l01In.f a0_1 0 1000).bind fun t395 => (if t395 = true then ((spec_l01In.f a0_2 0 1000).bind fun t396 => (some t396)) else (some false))) else (some false))
set_option maxHeartbeats 8000000 in
set_option maxRecDepth 100000 in
theorem spec_RulesOk.calls (a0_0 : Int) (a0_1 : Int) (a0_2 : Int) (r : Bool) (w : World) (h : spec_RulesOk.f a0_0 a0_1 a0_2 = some r) :
 Calls Try.prog 138 #[.agg #[.int .i64 a0_0, .int .i64 a0_1, .int .i64 a0_2]] w fun e w' => e = .returned (.bool r) ∧ Below w.heap.size w w' := by
 have hu61 := Try.underlying61
 have HB := Aside0.mk (Below.refl w.heap.size w)
 have H : ((spec_l01In.f a0_0 0 1000).bind fun t394 => (if t394 = true then ((spec_l01In.f a0_1 0 1000).bind fun t395 => (if t395 = true then ((spec_l01In.f a0_2 0 1000).bind fun t396 => (some t396)) else (some false))) else (some false))) = some r := h
 clear h
 obtain ⟨t394, A20, H⟩ := bo H
 have A2 := Aside0.mk A20
 clear A20
 by_cases c3 : t394 = true
 · subst c3
   replace H := iT H
   obtain ⟨t395, A40, H⟩ := bo H
   have A4 := Aside0.mk A40
   clear A40
   by_cases c5 : t395 = true
   · subst c5
     replace H := iT H
     obtain ⟨t396, A60, H⟩ := bo H
     have A6 := Aside0.mk A60
     clear A60
     obtain rfl := Option.some.inj H
     go_enter Try.func138, Try.ntmps138
     go_wp2_with (first | ((with_reducible refine gate_dst (N := 1) rfl ?_); refine bx 1 #[.int .i64 a0_0, .int .i64 a0_1, .int .i64 a0_2] 61 ?_; intro gb393 hg w7 hbox hb; have BK393 := ak hbox; have GW393 := gs hg bl; have GE393 := gs hg bl; replace HB := ak (below_step bl hb); clear hb hbox hg; obtain ⟨hcz8_0, hcz8_1, hcz8_2, hfz8_0, hfz8_1, hfz8_2⟩ := cz3 BK393) | ((with_reducible refine gate_callee (f := 69) rfl ?_); refine gl (some 5) Try.func69 #[.int .i64 a0_0, .int .i64 0, .int .i64 1000] ?_; (with_reducible refine (spec_l01In.calls a0_0 0 1000 true _ A2.out).mono ?_); rintro e w' ⟨rfl, ⟨nd, rfl⟩⟩; refine ⟨_, rfl, ?_⟩) | (go_at_call 69; (with_reducible refine (spec_l01In.calls a0_1 0 1000 true _ A4.out).mono ?_); rintro e w' ⟨rfl, ⟨nd, rfl⟩⟩) | (go_at_call 69; (with_reducible refine (spec_l01In.calls a0_2 0 1000 t396 _ A6.out).mono ?_); rintro e w' ⟨rfl, ⟨nd, rfl⟩⟩))
     go_ret
     exact ⟨ew, bl1 GE393⟩
   · replace c5 := Bool.eq_false_iff.mpr c5
     subst c5
     replace H := iF H
     obtain rfl := Option.some.inj H
     go_enter Try.func138, Try.ntmps138
     go_wp2_with (first | ((with_reducible refine gate_dst (N := 1) rfl ?_); refine bx 1 #[.int .i64 a0_0, .int .i64 a0_1, .int .i64 a0_2] 61 ?_; intro gb393 hg w9 hbox hb; have BK393 := ak hbox; have GW393 := gs hg bl; have GE393 := gs hg bl; replace HB := ak (below_step bl hb); clear hb hbox hg; obtain ⟨hcz10_0, hcz10_1, hcz10_2, hfz10_0, hfz10_1, hfz10_2⟩ := cz3 BK393) | ((with_reducible refine gate_callee (f := 69) rfl ?_); refine gl (some 5) Try.func69 #[.int .i64 a0_0, .int .i64 0, .int .i64 1000] ?_; (with_reducible refine (spec_l01In.calls a0_0 0 1000 true _ A2.out).mono ?_); rintro e w' ⟨rfl, ⟨nd, rfl⟩⟩; refine ⟨_, rfl, ?_⟩) | (go_at_call 69; (with_reducible refine (spec_l01In.calls a0_1 0 1000 false _ A4.out).mono ?_); rintro e w' ⟨rfl, ⟨nd, rfl⟩⟩))
     go_ret
     exact ⟨ew, bl1 GE393⟩
 · replace c3 := Bool.eq_false_iff.mpr c3
   subst c3
   replace H := iF H
   obtain rfl := Option.some.inj H
   go_enter Try.func138, Try.ntmps138
   go_wp2_with (first | ((with_reducible refine gate_dst (N := 1) rfl ?_); refine bx 1 #[.int .i64 a0_0, .int .i64 a0_1, .int .i64 a0_2] 61 ?_; intro gb393 hg w11 hbox hb; have BK393 := ak hbox; have GW393 := gs hg bl; have GE393 := gs hg bl; replace HB := ak (below_step bl hb); clear hb hbox hg; obtain ⟨hcz12_0, hcz12_1, hcz12_2, hfz12_0, hfz12_1, hfz12_2⟩ := cz3 BK393) | ((with_reducible refine gate_callee (f := 69) rfl ?_); refine gl (some 5) Try.func69 #[.int .i64 a0_0, .int .i64 0, .int .i64 1000] ?_; (with_reducible refine (spec_l01In.calls a0_0 0 1000 false _ A2.out).mono ?_); rintro e w' ⟨rfl, ⟨nd, rfl⟩⟩; refine ⟨_, rfl, ?_⟩))
   go_ret
   exact ⟨ew, bl1 GE393⟩

end Go.Proofs.Ytplekidnlofioaa.Q
namespace Go.Proofs.Ytplekidnlofioaa.Q
open Go.RowKit Go.Proofs.YtplekidnlofioaaW.PrintWords Go.Proofs.YtplekidnlofioaaW.PrintLast Go.Proofs.YtplekidnlofioaaW.PrintMore
attribute [local go_sem] max2_int min2_int max_two min_two max_three min_three max_four min_four   -- for this text's walks alone
set_option linter.unusedVariables false
set_option linter.unusedSimpArgs false

/-! ### spec_ClassOf: function 87 -/
mutual
def spec_ClassOf.j0 : Nat → List (S81) → ByteArray → Int → Bool → ByteArray → Int → Int → Bool → Int → Int → Int → Option (Int)
 | 0, _, _, _, _, _, _, _, _, _, _, _ => none
 | k + 1, x1, x2, x3, x30, x398000, x398001, x398002, x398003, x399000, x399001, x399002 => if x30 = true then (some (-1)) else (if x398002 = 0 then ((spec_LatestOf.f k x1 x398000 x2).bind fun bt403 => (if bt403.2.2 = true then (spec_ClassOf.j1 k x3 (decide ((wrap64 (bt403.1 + x399001)) < x3)) x398000 x398001 x398002 x398003 x399000 x399001 x399002) else (spec_ClassOf.j1 k x3 true x398000 x398001 x398002 x398003 x399000 x399001 x399002))) else (some 3))
def spec_ClassOf.j1 : Nat → Int → Bool → ByteArray → Int → Int → Bool → Int → Int → Int → Option (Int)
 | 0, _, _, _, _, _, _, _, _, _ => none
 | k + 1, x3, x52, x398000, x398001, x398002, x398003, x399000, x399001, x399002 => if x52 = true then (some 2) else (if x398003 = true then (if (wrap64 (x398001 + x399000)) > x3 then (some 1) else (some 0)) else (some 1))
end
def spec_ClassOf.f (k : Nat) (a0_0 : ByteArray) (a0_1 : Int) (a0_2 : Int) (a0_3 : Bool) (l1 : List (S81)) (a2 : ByteArray) (a3 : Int) (a4_0 : Int) (a4_1 : Int) (a4_2 : Int) : Option (Int) := (spec_PodOk.f k a0_0 a0_1 a0_2 a0_3).bind fun t399 => (if t399 = true then ((spec_RulesOk.f a4_0 a4_1 a4_2).bind fun t400 => (if t400 = true then ((spec_l02Tick.f a3).bind fun t401 => (if t401 = true then ((spec_StoreOk.f k l1).bind fun t402 => (spec_ClassOf.j0 k l1 a2 a3 (!t402) a0_0 a0_1 a0_2 a0_3 a4_0 a4_1 a4_2)) else (spec_ClassOf.j0 k l1 a2 a3 true a0_0 a0_1 a0_2 a0_3 a4_0 a4_1 a4_2))) else (spec_ClassOf.j0 k l1 a2 a3 true a0_0 a0_1 a0_2 a0_3 a4_0 a4_1 a4_2))) else (spec_ClassOf.j0 k l1 a2 a3 true a0_0 a0_1 a0_2 a0_3 a4_0 a4_1 a4_2))
theorem spec_ClassOf.mono_l : ∀ k, (∀ y0 y1 y2 y3 y4 y5 y6 y7 y8 y9 y10, LeO (spec_ClassOf.j0 k y0 y1 y2 y3 y4 y5 y6 y7 y8 y9 y10) (spec_ClassOf.j0 (k + 1) y0 y1 y2 y3 y4 y5 y6 y7 y8 y9 y10)) ∧ (∀ y0 y1 y2 y3 y4 y5 y6 y7 y8, LeO (spec_ClassOf.j1 k y0 y1 y2 y3 y4 y5 y6 y7 y8) (spec_ClassOf.j1 (k + 1) y0 y1 y2 y3 y4 y5 y6 y7 y8))
 | 0 => ⟨fun _ _ _ _ _ _ _ _ _ _ _ r h => by simp [spec_ClassOf.j0] at h, fun _ _ _ _ _ _ _ _ _ r h => by simp [spec_ClassOf.j1] at h⟩
 | k + 1 => by
  obtain ⟨ih0, ih1⟩ := spec_ClassOf.mono_l k
  refine ⟨?_, ?_⟩
  · intro y0 y1 y2 y3 y4 y5 y6 y7 y8 y9 y10
    unfold spec_ClassOf.j0
    repeat' first
    | (with_reducible exact ih0 _ _ _ _ _ _ _ _ _ _ _)
    | (with_reducible exact ih1 _ _ _ _ _ _ _ _ _)
    | (with_reducible exact spec_LatestOf.mono _ _ _ _)
    | (with_reducible exact spec_PodOk.mono _ _ _ _ _)
    | (with_reducible exact spec_StoreOk.mono _ _)
    | (with_reducible exact LeO.refl _)
    | (with_reducible exact LeO.none _)
    | (with_reducible refine LeO.ite ?_ ?_)
    | (with_reducible refine LeO.bind ?_ (fun _ => ?_))
    | exact ih0 _ _ _ _ _ _ _ _ _ _ _
    | exact ih1 _ _ _ _ _ _ _ _ _
    | exact spec_LatestOf.mono _ _ _ _
    | exact spec_PodOk.mono _ _ _ _ _
    | exact spec_StoreOk.mono _ _
    | exact LeO.none _
    | refine LeO.ite ?_ ?_
    | refine LeO.bind ?_ (fun _ => ?_)
  · intro y0 y1 y2 y3 y4 y5 y6 y7 y8
    unfold spec_ClassOf.j1
    repeat' first
    | (with_reducible exact ih0 _ _ _ _ _ _ _ _ _ _ _)
    | (with_reducible exact ih1 _ _ _ _ _ _ _ _ _)
    | (with_reducible exact spec_LatestOf.mono _ _ _ _)
    | (with_reducible exact spec_PodOk.mono _ _ _ _ _)
    | (with_reducible exact spec_StoreOk.mono _ _)
    | (with_reducible exact LeO.refl _)
    | (with_reducible exact LeO.none _)
    | (with_reducible refine LeO.ite ?_ ?_)
    | (with_reducible refine LeO.bind ?_ (fun _ => ?_))
    | exact ih0 _ _ _ _ _ _ _ _ _ _ _
    | exact ih1 _ _ _ _ _ _ _ _ _
    | exact spec_LatestOf.mono _ _ _ _
    | exact spec_PodOk.mono _ _ _ _ _
    | exact spec_StoreOk.mono _ _
    | exact LeO.none _
    | refine LeO.ite ?_ ?_
    | refine LeO.bind ?_ (fun _ => ?_)
theorem spec_ClassOf.mono : ∀ a0 a1 a2 a3 a4 a5 a6 a7 a8 a9 k, LeO (spec_ClassOf.f k a0 a1 a2 a3 a4 a5 a6 a7 a8 a9) (spec_ClassOf.f (k + 1) a0 a1 a2 a3 a4 a5 a6 a7 a8 a9) := by
 intro a0 a1 a2 a3 a4 a5 a6 a7 a8 a9 k
 obtain ⟨ih0, ih1⟩ := spec_ClassOf.mono_l k
 unfold spec_ClassOf.f
 repeat' first
  | (with_reducible exact ih0 _ _ _ _ _ _ _ _ _ _ _)
  | (with_reducible exact ih1 _ _ _ _ _ _ _ _ _)
  | (with_reducible exact spec_LatestOf.mono _ _ _ _)
  | (with_reducible exact spec_PodOk.mono _ _ _ _ _)
  | (with_reducible exact spec_StoreOk.mono _ _)
  | (with_reducible exact LeO.refl _)
  | (with_reducible exact LeO.none _)
  | (with_reducible refine LeO.ite ?_ ?_)
  | (with_reducible refine LeO.bind ?_ (fun _ => ?_))
  | exact ih0 _ _ _ _ _ _ _ _ _ _ _
  | exact ih1 _ _ _ _ _ _ _ _ _
  | exact spec_LatestOf.mono _ _ _ _
  | exact spec_PodOk.mono _ _ _ _ _
  | exact spec_StoreOk.mono _ _
  | exact LeO.none _
  | refine LeO.ite ?_ ?_
  | refine LeO.bind ?_ (fun _ => ?_)
set_option maxHeartbeats 8000000 in
set_option maxRecDepth 100000 in
theorem spec_ClassOf.calls (k : Nat) (a0_0 : ByteArray) (a0_1 : Int) (a0_2 : Int) (a0_3 : Bool) (A1 : Option Addr) (c1 : Nat) (l1 : List (S81)) (a2 : ByteArray) (a3 : Int) (a4_0 : Int) (a4_1 : Int) (a4_2 : Int) (r : Int) (w : World) (hr1 : Kd.C k81 w A1 l1.length l1) (hc1 : l1.length ≤ c1) (h : spec_ClassOf.f k a0_0 a0_1 a0_2 a0_3 l1 a2 a3 a4_0 a4_1 a4_2 = some r) :
 Calls Try.prog 87 #[.agg #[.string a0_0, .int .i64 a0_1, .int .i64 a0_2, .bool a0_3], .slice A1 l1.length c1, .string a2, .int .i64 a3, .agg #[.int .i64 a4_0, .int .i64 a4_1, .int .i64 a4_2]] w fun e w' => e = .returned (.int .i64 r) ∧ Below w.heap.size w w' := by
 have hu147 := Try.underlying147
 have hu61 := Try.underlying61
 have hu37 := Try.underlying37
 have HR1 := Aside0.mk hr1
 have HC1 := Aside0.mk hc1
 clear hr1 hc1
 have HB := Aside0.mk (Below.refl w.heap.size w)
 have H : ((spec_PodOk.f k a0_0 a0_1 a0_2 a0_3).bind fun t399 => (if t399 = true then ((spec_RulesOk.f a4_0 a4_1 a4_2).bind fun t400 => (if t400 = true then ((spec_l02Tick.f a3).bind fun t401 => (if t401 = true then ((spec_StoreOk.f k l1).bind fun t402 => (spec_ClassOf.j0 k l1 a2 a3 (!t402) a0_0 a0_1 a0_2 a0_3 a4_0 a4_1 a4_2)) else (spec_ClassOf.j0 k l1 a2 a3 true a0_0 a0_1 a0_2 a0_3 a4_0 a4_1 a4_2))) else (spec_ClassOf.j0 k l1 a2 a3 true a0_0 a0_1 a0_2 a0_3 a4_0 a4_1 a4_2))) else (spec_ClassOf.j0 k l1 a2 a3 true a0_0 a0_1 a0_2 a0_3 a4_0 a4_1 a4_2))) = some r := h
 clear h
 have HC6 := Aside0.mk H
 clear H
 go_enter Try.func87, Try.ntmps87
 go_upto_region 1 with (first | ((with_reducible refine gate_dst (N := 5) rfl ?_); refine bx 5 #[.string a0_0, .int .i64 a0_1, .int .i64 a0_2, .bool a0_3] 147 ?_; intro gb397 hg w7 hbox hb; have BK397 := ak hbox; have GW397 := gs hg bl; have GE397 := gs hg bl; replace HB := ak (below_step bl hb); clear hb hbox hg) | ((with_reducible refine gate_dst (N := 9) rfl ?_); refine bx 9 #[.int .i64 a4_0, .int .i64 a4_1, .int .i64 a4_2] 61 ?_; intro gb398 hg w8 hbox hb; have BK398 := ak hbox; have GW398 := gs hg (bl1 GE397); have GE398 := gs hg (bl1 GE397); replace HB := ak (below_step (bl1 GE397) hb); have NB397_398 := nl hg BK397; have NB398_397 := ng hg BK397; replace BK397 := bb BK397 hb; clear hb hbox hg))
 (try simp only [Act.put, List.setIfInBounds_toArray, List.set_cons_zero, List.set_cons_succ])
 go_cut [30] (fun v30 wc => ∃ (kq : Nat) (x30_5 : Bool), v30 = .bool x30_5 ∧ Aside0 (spec_ClassOf.j0 kq l1 a2 a3 x30_5 a0_0 a0_1 a0_2 a0_3 a4_0 a4_1 a4_2 = some r) ∧ Aside0 (kq ≤ k) ∧ Aside0 (wc.heap[gb397]? = some (.cells #[.string a0_0, .int .i64 a0_1, .int .i64 a0_2, .bool a0_3] 147 (0, 0))) ∧ Aside0 (wc.heap[gb398]? = some (.cells #[.int .i64 a4_0, .int .i64 a4_1, .int .i64 a4_2] 61 (0, 0))) ∧ Aside0 (Below w.heap.size w wc))
 case first =>
  have H := HC6.out
  clear HC6
  obtain ⟨t399, A90, H⟩ := bo H
  have A9 := Aside0.mk A90
  clear A90
  by_cases c10 : t399 = true
  · subst c10
    replace H := iT H
    obtain ⟨t400, A110, H⟩ := bo H
    have A11 := Aside0.mk A110
    clear A110
    by_cases c12 : t400 = true
    · subst c12
      replace H := iT H
      obtain ⟨t401, A130, H⟩ := bo H
      have A13 := Aside0.mk A130
      clear A130
      by_cases c14 : t401 = true
      · subst c14
        replace H := iT H
        obtain ⟨t402, A150, H⟩ := bo H
        have A15 := Aside0.mk A150
        clear A150
        have H' := Aside0.mk H
        clear H
        have hnb16 := NB397_398.out
        have hnc16 := NB398_397.out
        obtain ⟨hcz17_0, hcz17_1, hcz17_2, hcz17_3, hfz17_0, hfz17_1, hfz17_2, hfz17_3⟩ := cz4 BK397
        go_wp2_with (first | ((with_reducible refine gate_callee (f := 137) rfl ?_); refine gl (some 14) Try.func137 #[.agg #[.string a0_0, .int .i64 a0_1, .int .i64 a0_2, .bool a0_3]] ?_; (with_reducible refine (spec_PodOk.calls k a0_0 a0_1 a0_2 a0_3 true _ A9.out).mono ?_); rintro e w18 ⟨rfl, hb⟩; refine ⟨_, rfl, ?_⟩; replace BK397 := bb BK397 hb; replace BK398 := bb BK398 hb; replace HB := ak (below_step (bl2 GE397 GE398) hb); (try clear hb); (try clear hb2); (try clear hk); (try clear hi); obtain ⟨hcz19_0, hcz19_1, hcz19_2, hfz19_0, hfz19_1, hfz19_2⟩ := cz3 BK398) | (go_at_call 138; (with_reducible refine (spec_RulesOk.calls a4_0 a4_1 a4_2 true _ A11.out).mono ?_); rintro e w20 ⟨rfl, hb⟩; replace BK397 := bb BK397 hb; replace BK398 := bb BK398 hb; replace HB := ak (below_step (bl2 GE397 GE398) hb); (try clear hb); (try clear hb2); (try clear hk); (try clear hi)) | (go_at_call 71; (with_reducible refine (spec_l02Tick.calls a3 true _ A13.out).mono ?_); rintro e w' ⟨rfl, ⟨nd, rfl⟩⟩) | (go_at_call 16; (with_reducible refine (spec_StoreOk.calls k _ _ l1 t402 _ ?side1 ?side2 A15.out).mono ?_); (case side1 => repeat (first | exact (Kd.C_below HR1.out (bl2 GE397 GE398)) | (with_reducible refine Kd.C_alloc ?_ _) | (with_reducible refine Kd.C_drewN ?_ _) | (with_reducible refine Kd.C_drew ?_))); (case side2 => exact HC1.out); rintro e w21 ⟨rfl, hb⟩; replace BK397 := bb BK397 hb; replace BK398 := bb BK398 hb; replace HB := ak (below_step (bl2 GE397 GE398) hb); (try clear hb); (try clear hb2); (try clear hk); (try clear hi)))
        go_meet
        case rel => exact ⟨_, (!t402), es, H', ⟨by first | omega | exact Nat.le_refl _⟩, ⟨bk BK397⟩, ⟨bk BK398⟩, ⟨bl2 GE397 GE398⟩⟩
      · replace c14 := Bool.eq_false_iff.mpr c14
        subst c14
        replace H := iF H
        have H' := Aside0.mk H
        clear H
        have hnb22 := NB397_398.out
        have hnc22 := NB398_397.out
        obtain ⟨hcz23_0, hcz23_1, hcz23_2, hcz23_3, hfz23_0, hfz23_1, hfz23_2, hfz23_3⟩ := cz4 BK397
        go_wp2_with (first | ((with_reducible refine gate_callee (f := 137) rfl ?_); refine gl (some 14) Try.func137 #[.agg #[.string a0_0, .int .i64 a0_1, .int .i64 a0_2, .bool a0_3]] ?_; (with_reducible refine (spec_PodOk.calls k a0_0 a0_1 a0_2 a0_3 true _ A9.out).mono ?_); rintro e w24 ⟨rfl, hb⟩; refine ⟨_, rfl, ?_⟩; replace BK397 := bb BK397 hb; replace BK398 := bb BK398 hb; replace HB := ak (below_step (bl2 GE397 GE398) hb); (try clear hb); (try clear hb2); (try clear hk); (try clear hi); obtain ⟨hcz25_0, hcz25_1, hcz25_2, hfz25_0, hfz25_1, hfz25_2⟩ := cz3 BK398) | (go_at_call 138; (with_reducible refine (spec_RulesOk.calls a4_0 a4_1 a4_2 true _ A11.out).mono ?_); rintro e w26 ⟨rfl, hb⟩; replace BK397 := bb BK397 hb; replace BK398 := bb BK398 hb; replace HB := ak (below_step (bl2 GE397 GE398) hb); (try clear hb); (try clear hb2); (try clear hk); (try clear hi)) | (go_at_call 71; (with_reducible refine (spec_l02Tick.calls a3 false _ A13.out).mono ?_); rintro e w' ⟨rfl, ⟨nd, rfl⟩⟩))
        go_meet
        case rel => exact ⟨_, (true), es, H', ⟨by first | omega | exact Nat.le_refl _⟩, ⟨bk BK397⟩, ⟨bk BK398⟩, ⟨bl2 GE397 GE398⟩⟩
    · replace c12 := Bool.eq_false_iff.mpr c12
      subst c12
      replace H := iF H
      have H' := Aside0.mk H
      clear H
      have hnb27 := NB397_398.out
      have hnc27 := NB398_397.out
      obtain ⟨hcz28_0, hcz28_1, hcz28_2, hcz28_3, hfz28_0, hfz28_1, hfz28_2, hfz28_3⟩ := cz4 BK397
      go_wp2_with (first | ((with_reducible refine gate_callee (f := 137) rfl ?_); refine gl (some 14) Try.func137 #[.agg #[.string a0_0, .int .i64 a0_1, .int .i64 a0_2, .bool a0_3]] ?_; (with_reducible refine (spec_PodOk.calls k a0_0 a0_1 a0_2 a0_3 true _ A9.out).mono ?_); rintro e w29 ⟨rfl, hb⟩; refine ⟨_, rfl, ?_⟩; replace BK397 := bb BK397 hb; replace BK398 := bb BK398 hb; replace HB := ak (below_step (bl2 GE397 GE398) hb); (try clear hb); (try clear hb2); (try clear hk); (try clear hi); obtain ⟨hcz30_0, hcz30_1, hcz30_2, hfz30_0, hfz30_1, hfz30_2⟩ := cz3 BK398) | (go_at_call 138; (with_reducible refine (spec_RulesOk.calls a4_0 a4_1 a4_2 false _ A11.out).mono ?_); rintro e w31 ⟨rfl, hb⟩; replace BK397 := bb BK397 hb; replace BK398 := bb BK398 hb; replace HB := ak (below_step (bl2 GE397 GE398) hb); (try clear hb); (try clear hb2); (try clear hk); (try clear hi)))
      go_meet
      case rel => exact ⟨_, (true), es, H', ⟨by first | omega | exact Nat.le_refl _⟩, ⟨bk BK397⟩, ⟨bk BK398⟩, ⟨bl2 GE397 GE398⟩⟩
  · replace c10 := Bool.eq_false_iff.mpr c10
    subst c10
    replace H := iF H
    have H' := Aside0.mk H
    clear H
    have hnb32 := NB397_398.out
    have hnc32 := NB398_397.out
    obtain ⟨hcz33_0, hcz33_1, hcz33_2, hcz33_3, hfz33_0, hfz33_1, hfz33_2, hfz33_3⟩ := cz4 BK397
    go_wp2_with (first | ((with_reducible refine gate_callee (f := 137) rfl ?_); refine gl (some 14) Try.func137 #[.agg #[.string a0_0, .int .i64 a0_1, .int .i64 a0_2, .bool a0_3]] ?_; (with_reducible refine (spec_PodOk.calls k a0_0 a0_1 a0_2 a0_3 false _ A9.out).mono ?_); rintro e w34 ⟨rfl, hb⟩; refine ⟨_, rfl, ?_⟩; replace BK397 := bb BK397 hb; replace BK398 := bb BK398 hb; replace HB := ak (below_step (bl2 GE397 GE398) hb); (try clear hb); (try clear hb2); (try clear hk); (try clear hi)))
    go_meet
    case rel => exact ⟨_, (true), es, H', ⟨by first | omega | exact Nat.le_refl _⟩, ⟨bk BK397⟩, ⟨bk BK398⟩, ⟨bl2 GE397 GE398⟩⟩
 case rest =>
  clear HC6
  try clear c1
  try clear c2
  try clear p2
  try clear c3
  try clear c8
  try clear c10
  try clear c12
  try clear c13
  try clear c14
  try clear c16
  try clear c22
  try clear c27
  try clear c32
  try clear hcz17_0
  try clear hcz17_1
  try clear hcz17_2
  try clear hcz17_3
  try clear hcz19_0
  try clear hcz19_1
  try clear hcz19_2
  try clear hcz23_0
  try clear hcz23_1
  try clear hcz23_2
  try clear hcz23_3
  try clear hcz25_0
  try clear hcz25_1
  try clear hcz25_2
  try clear hcz28_0
  try clear hcz28_1
  try clear hcz28_2
  try clear hcz28_3
  try clear hcz30_0
  try clear hcz30_1
  try clear hcz30_2
  try clear hcz33_0
  try clear hcz33_1
  try clear hcz33_2
  try clear hcz33_3
  try clear hfz17_0
  try clear hfz17_1
  try clear hfz17_2
  try clear hfz17_3
  try clear hfz19_0
  try clear hfz19_1
  try clear hfz19_2
  try clear hfz23_0
  try clear hfz23_1
  try clear hfz23_2
  try clear hfz23_3
  try clear hfz25_0
  try clear hfz25_1
  try clear hfz25_2
  try clear hfz28_0
  try clear hfz28_1
  try clear hfz28_2
  try clear hfz28_3
  try clear hfz30_0
  try clear hfz30_1
  try clear hfz30_2
  try clear hfz33_0
  try clear hfz33_1
  try clear hfz33_2
  try clear hfz33_3
  obtain ⟨kq, x30_5, rfl, HA, HJ5, BK397, BK398, HB⟩ := hcut
  cases kq with
  | zero => exact absurd HA.out (by simp [spec_ClassOf.j0])
  | succ kj5 =>
   have H := HA.out
   clear HA
   simp only [spec_ClassOf.j0] at H
   by_cases c35 : x30_5 = true
   · subst c35
     replace H := iT H
     obtain rfl := Option.some.inj H
     go_wp2
     go_ret
     exact ⟨ew, bl2 GE397 GE398⟩
   · replace c35 := Bool.eq_false_iff.mpr c35
     subst c35
     replace H := iF H
     by_cases c36 : a0_2 = 0
     · rw [if_pos c36] at H
       have c36b0 : (a0_2 == 0) = true := beq_iff_eq.mpr c36
       have c36b1 : (a0_2 != 0) = false := bne_eq_false_iff_eq.mpr c36
       clear c36
       replace H := Option.bind_eq_some_iff.mp H
       obtain ⟨⟨t403, t404, t405⟩, A370, H⟩ := H
       replace H : (if t405 = true then (spec_ClassOf.j1 kj5 a3 (decide ((wrap64 (t403 + a4_1)) < a3)) a0_0 a0_1 a0_2 a0_3 a4_0 a4_1 a4_2) else (spec_ClassOf.j1 kj5 a3 true a0_0 a0_1 a0_2 a0_3 a4_0 a4_1 a4_2)) = some r := H
       have A37 := Aside0.mk A370
       clear A370
       have HC38 := Aside0.mk H
       clear H
       have hnb39 := NB397_398.out
       have hnc39 := NB398_397.out
       obtain ⟨hcz40_0, hcz40_1, hcz40_2, hcz40_3, hfz40_0, hfz40_1, hfz40_2, hfz40_3⟩ := cz4 BK397
       go_upto_region 6 with (first | ((with_reducible refine gate_callee (f := 103) rfl ?_); refine gl (some 39) Try.func103 #[.slice A1 l1.length c1, .string a0_0, .string a2] ?_; (with_reducible refine (spec_LatestOf.calls kj5 _ _ l1 a0_0 a2 t403 t404 t405 _ ?side1 ?side2 A37.out).mono ?_); (case side1 => exact cb HR1); (case side2 => exact HC1.out); rintro e w41 ⟨rfl, hb⟩; refine ⟨_, rfl, ?_⟩; replace BK397 := bb BK397 hb; replace BK398 := bb BK398 hb; replace HB := ak (below_step (bl2 GE397 GE398) hb); (try clear hb); (try clear hb2); (try clear hk); (try clear hi)) | ((with_reducible refine gate_dst (N := 11) rfl ?_); refine bx 11 #[.int .i64 0, .int .i64 0] 37 ?_; intro gb406 hg w42 hbox hb; have BK406 := ak hbox; have GW406 := gs hg (bl2 GE397 GE398); have GE406 := gs hg (bl2 GE397 GE398); replace HB := ak (below_step (bl2 GE397 GE398) hb); have NB397_406 := nl hg BK397; have NB406_397 := ng hg BK397; replace BK397 := bb BK397 hb; have NB398_406 := nl hg BK398; have NB406_398 := ng hg BK398; replace BK398 := bb BK398 hb; clear hb hbox hg; have hnb43 := NB406_397.out; have hnc43 := NB397_406.out; have hnb44 := NB406_398.out; have hnc44 := NB398_406.out; obtain ⟨hcz45_0, hcz45_1, hfz45_0, hfz45_1⟩ := cz2 BK406))
       (try simp only [Act.put, List.setIfInBounds_toArray, List.set_cons_zero, List.set_cons_succ])
       go_cut [52] (fun v52 wc => ∃ (kq : Nat) (x52_37 : Bool), v52 = .bool x52_37 ∧ Aside0 (spec_ClassOf.j1 kq a3 x52_37 a0_0 a0_1 a0_2 a0_3 a4_0 a4_1 a4_2 = some r) ∧ Aside0 (kq ≤ kj5) ∧ Aside0 (wc.heap[gb397]? = some (.cells #[.string a0_0, .int .i64 a0_1, .int .i64 a0_2, .bool a0_3] 147 (0, 0))) ∧ Aside0 (wc.heap[gb398]? = some (.cells #[.int .i64 a4_0, .int .i64 a4_1, .int .i64 a4_2] 61 (0, 0))) ∧ Aside0 (wc.heap[gb406]? = some (.cells #[.int .i64 t403, .int .i64 t404] 37 (0, 0))) ∧ Aside0 (Below w.heap.size w wc))
       case first =>
        have H := HC38.out
        clear HC38
        by_cases c46 : t405 = true
        · subst c46
          replace H := iT H
          have H' := Aside0.mk H
          clear H
          have hnb47 := NB406_397.out
          have hnc47 := NB397_406.out
          have hnb48 := NB406_398.out
          have hnc48 := NB398_406.out
          obtain ⟨hcz49_0, hcz49_1, hfz49_0, hfz49_1⟩ := cz2 BK406
          have hnb50 := NB398_397.out
          have hnc50 := NB397_398.out
          obtain ⟨hcz51_0, hcz51_1, hcz51_2, hfz51_0, hfz51_1, hfz51_2⟩ := cz3 BK398
          go_wp2
          go_meet
          case rel => exact ⟨_, (decide ((wrap64 (t403 + a4_1)) < a3)), es, H', ⟨by have := HJ5.out; first | omega | exact Nat.le_refl _⟩, ⟨by (with_reducible repeat (first | refine blk_drewN ?_ _ | refine blk_drew ?_ | refine blk_alloc ?_ _)); refine blk_far ?_ NB397_406.out _; (with_reducible repeat (first | refine blk_drewN ?_ _ | refine blk_drew ?_ | refine blk_alloc ?_ _)); refine blk_far ?_ NB397_406.out _; (with_reducible repeat (first | refine blk_drewN ?_ _ | refine blk_drew ?_ | refine blk_alloc ?_ _)); exact BK397.out⟩, ⟨by (with_reducible repeat (first | refine blk_drewN ?_ _ | refine blk_drew ?_ | refine blk_alloc ?_ _)); refine blk_far ?_ NB398_406.out _; (with_reducible repeat (first | refine blk_drewN ?_ _ | refine blk_drew ?_ | refine blk_alloc ?_ _)); refine blk_far ?_ NB398_406.out _; (with_reducible repeat (first | refine blk_drewN ?_ _ | refine blk_drew ?_ | refine blk_alloc ?_ _)); exact BK398.out⟩, ⟨by (with_reducible repeat (first | refine blk_drewN ?_ _ | refine blk_drew ?_ | refine blk_alloc ?_ _)); refine blk_put (cs := #[.int .i64 t403, .int .i64 0]) ?_ 1 _ rfl; (with_reducible repeat (first | refine blk_drewN ?_ _ | refine blk_drew ?_ | refine blk_alloc ?_ _)); refine blk_put (cs := #[.int .i64 0, .int .i64 0]) ?_ 0 _ rfl; (with_reducible repeat (first | refine blk_drewN ?_ _ | refine blk_drew ?_ | refine blk_alloc ?_ _)); exact BK406.out⟩, ⟨bl3 GE397 GE398 GE406⟩⟩
        · replace c46 := Bool.eq_false_iff.mpr c46
          subst c46
          replace H := iF H
          have H' := Aside0.mk H
          clear H
          go_wp2
          go_meet
          case rel => exact ⟨_, (true), es, H', ⟨by have := HJ5.out; first | omega | exact Nat.le_refl _⟩, ⟨by (with_reducible repeat (first | refine blk_drewN ?_ _ | refine blk_drew ?_ | refine blk_alloc ?_ _)); refine blk_far ?_ NB397_406.out _; (with_reducible repeat (first | refine blk_drewN ?_ _ | refine blk_drew ?_ | refine blk_alloc ?_ _)); refine blk_far ?_ NB397_406.out _; (with_reducible repeat (first | refine blk_drewN ?_ _ | refine blk_drew ?_ | refine blk_alloc ?_ _)); exact BK397.out⟩, ⟨by (with_reducible repeat (first | refine blk_drewN ?_ _ | refine blk_drew ?_ | refine blk_alloc ?_ _)); refine blk_far ?_ NB398_406.out _; (with_reducible repeat (first | refine blk_drewN ?_ _ | refine blk_drew ?_ | refine blk_alloc ?_ _)); refine blk_far ?_ NB398_406.out _; (with_reducible repeat (first | refine blk_drewN ?_ _ | refine blk_drew ?_ | refine blk_alloc ?_ _)); exact BK398.out⟩, ⟨by (with_reducible repeat (first | refine blk_drewN ?_ _ | refine blk_drew ?_ | refine blk_alloc ?_ _)); refine blk_put (cs := #[.int .i64 t403, .int .i64 0]) ?_ 1 _ rfl; (with_reducible repeat (first | refine blk_drewN ?_ _ | refine blk_drew ?_ | refine blk_alloc ?_ _)); refine blk_put (cs := #[.int .i64 0, .int .i64 0]) ?_ 0 _ rfl; (with_reducible repeat (first | refine blk_drewN ?_ _ | refine blk_drew ?_ | refine blk_alloc ?_ _)); exact BK406.out⟩, ⟨bl3 GE397 GE398 GE406⟩⟩
       case rest =>
        clear HC38
        try clear c1
        try clear c2
        try clear p2
        try clear c3
        try clear c4
        try clear c5
        try clear p6
        try clear c8
        try clear c10
        try clear c12
        try clear c13
        try clear c14
        try clear c16
        try clear c22
        try clear c27
        try clear c32
        try clear c35
        try clear c36
        try clear c36b0
        try clear c36b1
        try clear c39
        try clear c43
        try clear c44
        try clear c46
        try clear c47
        try clear c48
        try clear c50
        try clear hcz17_0
        try clear hcz17_1
        try clear hcz17_2
        try clear hcz17_3
        try clear hcz19_0
        try clear hcz19_1
        try clear hcz19_2
        try clear hcz23_0
        try clear hcz23_1
        try clear hcz23_2
        try clear hcz23_3
        try clear hcz25_0
        try clear hcz25_1
        try clear hcz25_2
        try clear hcz28_0
        try clear hcz28_1
        try clear hcz28_2
        try clear hcz28_3
        try clear hcz30_0
        try clear hcz30_1
        try clear hcz30_2
        try clear hcz33_0
        try clear hcz33_1
        try clear hcz33_2
        try clear hcz33_3
        try clear hcz40_0
        try clear hcz40_1
        try clear hcz40_2
        try clear hcz40_3
        try clear hcz45_0
        try clear hcz45_1
        try clear hcz49_0
        try clear hcz49_1
        try clear hcz51_0
        try clear hcz51_1
        try clear hcz51_2
        try clear hfz17_0
        try clear hfz17_1
        try clear hfz17_2
        try clear hfz17_3
        try clear hfz19_0
        try clear hfz19_1
        try clear hfz19_2
        try clear hfz23_0
        try clear hfz23_1
        try clear hfz23_2
        try clear hfz23_3
        try clear hfz25_0
        try clear hfz25_1
        try clear hfz25_2
        try clear hfz28_0
        try clear hfz28_1
        try clear hfz28_2
        try clear hfz28_3
        try clear hfz30_0
        try clear hfz30_1
        try clear hfz30_2
        try clear hfz33_0
        try clear hfz33_1
        try clear hfz33_2
        try clear hfz33_3
        try clear hfz40_0
        try clear hfz40_1
        try clear hfz40_2
        try clear hfz40_3
        try clear hfz45_0
        try clear hfz45_1
        try clear hfz49_0
        try clear hfz49_1
        try clear hfz51_0
        try clear hfz51_1
        try clear hfz51_2
        try clear p2
        obtain ⟨kq, x52_37, rfl, HA, HJ37, BK397, BK398, BK406, HB⟩ := hcut
        cases kq with
        | zero => exact absurd HA.out (by simp [spec_ClassOf.j1])
        | succ kj37 =>
         have H := HA.out
         clear HA
         simp only [spec_ClassOf.j1] at H
         by_cases c52 : x52_37 = true
         · subst c52
           replace H := iT H
           obtain rfl := Option.some.inj H
           go_wp2
           go_ret
           exact ⟨ew, bl3 GE397 GE398 GE406⟩
         · replace c52 := Bool.eq_false_iff.mpr c52
           subst c52
           replace H := iF H
           by_cases c53 : a0_3 = true
           · subst c53
             replace H := iT H
             by_cases c54 : (wrap64 (a0_1 + a4_0)) > a3
             · rw [if_pos c54] at H
               have c54b0 : decide (a3 < (wrap64 (a0_1 + a4_0))) = true := decide_eq_true c54
               clear c54
               obtain rfl := Option.some.inj H
               have hnb55 := NB397_398.out
               have hnc55 := NB398_397.out
               have hnb56 := NB397_406.out
               have hnc56 := NB406_397.out
               obtain ⟨hcz57_0, hcz57_1, hcz57_2, hcz57_3, hfz57_0, hfz57_1, hfz57_2, hfz57_3⟩ := cz4 BK397
               have hnb58 := NB398_406.out
               have hnc58 := NB406_398.out
               obtain ⟨hcz59_0, hcz59_1, hcz59_2, hfz59_0, hfz59_1, hfz59_2⟩ := cz3 BK398
               go_wp2
               go_ret
               exact ⟨ew, bl3 GE397 GE398 GE406⟩
             · rw [if_neg c54] at H
               have c54b0 : decide (a3 < (wrap64 (a0_1 + a4_0))) = false := decide_eq_false c54
               clear c54
               obtain rfl := Option.some.inj H
               have hnb60 := NB397_398.out
               have hnc60 := NB398_397.out
               have hnb61 := NB397_406.out
               have hnc61 := NB406_397.out
               obtain ⟨hcz62_0, hcz62_1, hcz62_2, hcz62_3, hfz62_0, hfz62_1, hfz62_2, hfz62_3⟩ := cz4 BK397
               have hnb63 := NB398_406.out
               have hnc63 := NB406_398.out
               obtain ⟨hcz64_0, hcz64_1, hcz64_2, hfz64_0, hfz64_1, hfz64_2⟩ := cz3 BK398
               go_wp2
               go_ret
               exact ⟨ew, bl3 GE397 GE398 GE406⟩
           · replace c53 := Bool.eq_false_iff.mpr c53
             subst c53
             replace H := iF H
             obtain rfl := Option.some.inj H
             have hnb65 := NB397_398.out
             have hnc65 := NB398_397.out
             have hnb66 := NB397_406.out
             have hnc66 := NB406_397.out
             obtain ⟨hcz67_0, hcz67_1, hcz67_2, hcz67_3, hfz67_0, hfz67_1, hfz67_2, hfz67_3⟩ := cz4 BK397
             go_wp2
             go_ret
             exact ⟨ew, bl3 GE397 GE398 GE406⟩
     · rw [if_neg c36] at H
       have c36b0 : (a0_2 == 0) = false := beq_eq_false_iff_ne.mpr c36
       have c36b1 : (a0_2 != 0) = true := bne_iff_ne.mpr c36
       obtain rfl := Option.some.inj H
       have hnb68 := NB397_398.out
       have hnc68 := NB398_397.out
       obtain ⟨hcz69_0, hcz69_1, hcz69_2, hcz69_3, hfz69_0, hfz69_1, hfz69_2, hfz69_3⟩ := cz4 BK397
       go_wp2
       go_ret
       exact ⟨ew, bl2 GE397 GE398⟩

end Go.Proofs.Ytplekidnlofioaa.Q
namespace Go.Proofs.Ytplekidnlofioaa.Q
open Go.RowKit Go.Proofs.YtplekidnlofioaaW.PrintWords Go.Proofs.YtplekidnlofioaaW.PrintLast Go.Proofs.YtplekidnlofioaaW.PrintMore
attribute [local go_sem] max2_int min2_int max_two min_two max_three min_three max_four min_four   -- for this text's walks alone
set_option linter.unusedVariables false
set_option linter.unusedSimpArgs false

/-! ### spec_ClassesOf: function 33 -/
def spec_ClassesOf.l0 : Nat → List (S147) → List (S81) → ByteArray → Int → List Int → Int → Int → Int → Int → Option (List Int)
 | 0, _, _, _, _, _, _, _, _, _ => none
 | k + 1, x0, x1, x2, x3, x11, x12, x408000, x408001, x408002 => if x12 < (x0.length : Int) then (if 0 ≤ x12 then ((spec_ClassOf.f k ((rd_T147 x0 x12).f0) ((rd_T147 x0 x12).f1) ((rd_T147 x0 x12).f2) ((rd_T147 x0 x12).f3) x1 x2 x3 x408000 x408001 x408002).bind fun t413 => (if t413 < 0 then (some ([] : List Int)) else (if x11.length < 17592186044416 then (spec_ClassesOf.l0 k x0 x1 x2 x3 (x11 ++ [t413]) (wrap64 (x12 + 1)) x408000 x408001 x408002) else (none)))) else (none)) else (some x11)
def spec_ClassesOf.f (k : Nat) (l0 : List (S147)) (l1 : List (S81)) (a2 : ByteArray) (a3 : Int) (a4_0 : Int) (a4_1 : Int) (a4_2 : Int) : Option (List Int) := (spec_PodsOk.f k l0).bind fun t411 => (if t411 = true then (spec_ClassesOf.l0 k l0 l1 a2 a3 (([] : List Int)) 0 a4_0 a4_1 a4_2) else (some ([] : List Int)))
theorem spec_ClassesOf.mono_l : ∀ k, (∀ y0 y1 y2 y3 y4 y5 y6 y7 y8, LeO (spec_ClassesOf.l0 k y0 y1 y2 y3 y4 y5 y6 y7 y8) (spec_ClassesOf.l0 (k + 1) y0 y1 y2 y3 y4 y5 y6 y7 y8))
 | 0 => fun _ _ _ _ _ _ _ _ _ r h => by simp [spec_ClassesOf.l0] at h
 | k + 1 => by
  have ih0 := spec_ClassesOf.mono_l k
  · intro y0 y1 y2 y3 y4 y5 y6 y7 y8
    unfold spec_ClassesOf.l0
    repeat' first
    | (with_reducible exact ih0 _ _ _ _ _ _ _ _ _)
    | (with_reducible exact spec_ClassOf.mono _ _ _ _ _ _ _ _ _ _ _)
    | (with_reducible exact spec_PodsOk.mono _ _)
    | (with_reducible exact LeO.refl _)
    | (with_reducible exact LeO.none _)
    | (with_reducible refine LeO.ite ?_ ?_)
    | (with_reducible refine LeO.bind ?_ (fun _ => ?_))
    | exact ih0 _ _ _ _ _ _ _ _ _
    | exact spec_ClassOf.mono _ _ _ _ _ _ _ _ _ _ _
    | exact spec_PodsOk.mono _ _
    | exact LeO.none _
    | refine LeO.ite ?_ ?_
    | refine LeO.bind ?_ (fun _ => ?_)
theorem spec_ClassesOf.mono : ∀ a0 a1 a2 a3 a4 a5 a6 k, LeO (spec_ClassesOf.f k a0 a1 a2 a3 a4 a5 a6) (spec_ClassesOf.f (k + 1) a0 a1 a2 a3 a4 a5 a6) := by
 intro a0 a1 a2 a3 a4 a5 a6 k
 have ih0 := spec_ClassesOf.mono_l k
 unfold spec_ClassesOf.f
 repeat' first
  | (with_reducible exact ih0 _ _ _ _ _ _ _ _ _)
  | (with_reducible exact spec_ClassOf.mono _ _ _ _ _ _ _ _ _ _ _)
  | (with_reducible exact spec_PodsOk.mono _ _)
  | (with_reducible exact LeO.refl _)
  | (with_reducible exact LeO.none _)
  | (with_reducible refine LeO.ite ?_ ?_)
  | (with_reducible refine LeO.bind ?_ (fun _ => ?_))
  | exact ih0 _ _ _ _ _ _ _ _ _
  | exact spec_ClassOf.mono _ _ _ _ _ _ _ _ _ _ _
  | exact spec_PodsOk.mono _ _
  | exact LeO.none _
  | refine LeO.ite ?_ ?_
  | refine LeO.bind ?_ (fun _ => ?_)
def spec_ClassesOf.T7 : Bool × List (List Nat × List Nat) := (true, [([], []), ([], []), ([0, 1], [0, 1]), ([2], [2]), ([], []), ([], []), ([], []), ([], []), ([3, 4, 5, 6, 7], [3, 4, 5, 6, 7]), ([8, 8, 0, 1, 2, 3, 4, 5, 6, 7, 8], [8])])
def spec_ClassesOf.B7 : List Nat := [0, 0, 3, 7, 0, 0, 0, 0, 255, 511]
theorem spec_ClassesOf.tab7 : rtab .any (opsOf Try.f33 7) = spec_ClassesOf.T7 := by kernel_rfl
theorem spec_ClassesOf.bits7 : waitsOk spec_ClassesOf.T7.2 spec_ClassesOf.B7 = true := by kernel_rfl
set_option maxHeartbeats 8000000 in
set_option maxRecDepth 100000 in
theorem spec_ClassesOf.calls (k : Nat) (A0 : Option Addr) (c0 : Nat) (l0 : List (S147)) (A1 : Option Addr) (c1 : Nat) (l1 : List (S81)) (a2 : ByteArray) (a3 : Int) (a4_0 : Int) (a4_1 : Int) (a4_2 : Int) (r : List Int) (w : World) (hr0 : Kd.C k147 w A0 l0.length l0) (hc0 : l0.length ≤ c0) (hr1 : Kd.C k81 w A1 l1.length l1) (hc1 : l1.length ≤ c1) (h : spec_ClassesOf.f k l0 l1 a2 a3 a4_0 a4_1 a4_2 = some r) :
 Calls Try.prog 33 #[.slice A0 l0.length c0, .slice A1 l1.length c1, .string a2, .int .i64 a3, .agg #[.int .i64 a4_0, .int .i64 a4_1, .int .i64 a4_2]] w fun e w' => ∃ v0_ : Value, e = .returned (v0_) ∧ Kd.R (Kd.int .i64) 3 w' w.heap.size (fun _ => True) v0_ r ∧ Below w.heap.size w w' := by
 have hu61 := Try.underlying61
 have hu147 := Try.underlying147
 have HR0 := Aside0.mk hr0
 have HC0 := Aside0.mk hc0
 clear hr0 hc0
 have HR1 := Aside0.mk hr1
 have HC1 := Aside0.mk hc1
 clear hr1 hc1
 have HB := Aside0.mk (Below.refl w.heap.size w)
 have H : ((spec_PodsOk.f k l0).bind fun t411 => (if t411 = true then (spec_ClassesOf.l0 k l0 l1 a2 a3 (([] : List Int)) 0 a4_0 a4_1 a4_2) else (some ([] : List Int)))) = some r := h
 clear h
 obtain ⟨y408, hy408⟩ : ∃ y_ : List Int, y_ = (([] : List Int)) := ⟨_, rfl⟩
 replace H : ((spec_PodsOk.f k l0).bind fun t411 => (if t411 = true then (spec_ClassesOf.l0 k l0 l1 a2 a3 y408 0 a4_0 a4_1 a4_2) else (some ([] : List Int)))) = some r := by first | (rw [hy408]; with_reducible exact H) | (have H2_ := (Option.bind_some _ _).symm.trans H; rw [hy408]; with_reducible exact H2_) | (have H2_ := (Option.bind_some _ _).symm.trans H; with_reducible exact H2_) | with_reducible exact H | (rw [hy408]; exact H) | exact H
 have Ny408 := Aside0.mk hy408
 clear hy408
 obtain ⟨t411, A60, H⟩ := bo H
 have A6 := Aside0.mk A60
 clear A60
 by_cases c7 : t411 = true
 · subst c7
   replace H := iT H
   have H' := Aside0.mk H
   clear H
   go_enter Try.func33, Try.ntmps33
   go_wp2_with (first | ((with_reducible refine gate_dst (N := 9) rfl ?_); refine bx 9 #[.int .i64 a4_0, .int .i64 a4_1, .int .i64 a4_2] 61 ?_; intro gb407 hg w8 hbox hb; have BK407 := ak hbox; have GW407 := gs hg bl; have GE407 := gs hg bl; replace HB := ak (below_step bl hb); clear hb hbox hg) | ((with_reducible refine gate_dst (N := 14) rfl ?_); refine Kd.R_lit (Kd.int .i64) _ 3 ?hg (N := 14) ?hd (xs := ([] : List Int)) (inner := []) (ok := fun _ => True) (okp := fun _ => True) ?hr ?hp (fun _ hk => hk) trivial (Below.refl _ _) (Nat.le_refl _) (by simp) ?_; (case hd => rfl); (case hg => rfl); (case hr => first | (go_simp; done) | (go_simp; rfl)); (case hp => exact (Reps.none _ _)); intro v409 w9 ho10 hb hg_ hnew_; clear hg_ hnew_; (first | rw [← Ny408.out] at ho10 | (simp only [Int.reduceToNat] at ho10; rw [← Ny408.out] at ho10)); have HO410 := ak (Kd.R_lower ho10 (below_size (bl1 GE407))); replace BK407 := bb BK407 hb; replace HB := ak (below_step (bl1 GE407) hb); clear hb ho10) | ((with_reducible refine gate_callee (f := 86) rfl ?_); refine gl (some 16) Try.func86 #[.slice A0 l0.length c0] ?_; (with_reducible refine (spec_PodsOk.calls k _ _ l0 true _ ?side1 ?side2 A6.out).mono ?_); (case side1 => exact cb HR0); (case side2 => exact HC0.out); rintro e w11 ⟨rfl, hb⟩; refine ⟨_, rfl, ?_⟩; replace HO410 := ak (Kd.R_below (kr HO410) hb); replace BK407 := bb BK407 hb; replace HB := ak (below_step (bl1 GE407) hb); (try clear hb); (try clear hb2); (try clear hk); (try clear hi)))
   go_loopg [11, 12] k (fun kq v11 v12 w' => ∃ (x11_1 : List Int) (x12_1 : Int), v12 = .int .i64 x12_1 ∧ Aside0 (spec_ClassesOf.l0 kq l0 l1 a2 a3 x11_1 x12_1 a4_0 a4_1 a4_2 = some r) ∧ Aside0 (kq ≤ k) ∧ Aside0 (Kd.R (Kd.int .i64) 3 w' w.heap.size (fun _ => True) v11 x11_1) ∧ Aside0 (w'.heap[gb407]? = some (.cells #[.int .i64 a4_0, .int .i64 a4_1, .int .i64 a4_2] 61 (0, 0))) ∧ Aside0 (Below w.heap.size w w'))
   case atStart => exact ⟨(y408), (0), es, H', ⟨Nat.le_refl _⟩, ⟨kr HO410⟩, ⟨bk BK407⟩, ⟨bl1 GE407⟩⟩
   case round =>
    clear H'
    try clear c1
    try clear p2
    try clear c3
    try clear c7
    try clear c8
    obtain ⟨x11_1, x12_1, rfl, HA, HK1, HO_11, BK407, HB⟩ := hrel
    cases gk with
    | zero => exact absurd HA.out (by simp [spec_ClassesOf.l0])
    | succ k1 =>
     have H := HA.out
     clear HA
     simp only [spec_ClassesOf.l0] at H
     by_cases c12 : x12_1 < (l0.length : Int)
     · rw [if_pos c12] at H
       have c12b0 : decide (x12_1 < (l0.length : Int)) = true := decide_eq_true c12
       clear c12
       by_cases c13 : 0 ≤ x12_1
       · rw [if_pos c13] at H
         have c13b0 : decide (0 ≤ x12_1) = true := decide_eq_true c13
         clear c13
         obtain ⟨t413, A140, H⟩ := bo H
         have A14 := Aside0.mk A140
         clear A140
         by_cases c15 : t413 < 0
         · rw [if_pos c15] at H
           have c15b0 : decide (t413 < 0) = true := decide_eq_true c15
           clear c15
           obtain rfl := Option.some.inj H
           try go_wp2
           replace HO_11 := ak (Kd.R_drew HO_11.out)
           replace BK407 := ak (blk_drew BK407.out)
           replace HB := ak (below_drew1 HB.out)
           have p412 : 0 ≤ (x12_1 : Int) := of_decide_eq_true am
           have q412 : x12_1 < (l0.length : Int) := of_decide_eq_true am
           obtain ⟨ad412, e412, hx412_0, hx412_1, hx412_2, hx412_3⟩ := at_T147 HR0.out x12_1 p412 q412
           have hw412_3 := hx412_3
           have hw412_2 := hx412_2
           have hw412_1 := hx412_1
           have hw412_0 := hx412_0
           cases e412
           replace hx412_0 := cw hx412_0
           replace hx412_1 := cw hx412_1
           replace hx412_2 := cw hx412_2
           replace hx412_3 := cw hx412_3
           replace p412 := eq_true p412
           replace q412 := eq_true q412
           refine start_ (n := 10) (S := fun w' => w'.cell? ⟨gb407, 0, none⟩ = some (.int .i64 a4_0) ∧ w'.cell? ⟨gb407, 1, none⟩ = some (.int .i64 a4_1) ∧ w'.cell? ⟨gb407, 2, none⟩ = some (.int .i64 a4_2) ∧ w'.cell? (ad412.add ((x12_1).toNat * 4)) = some (.string ((rd_T147 l0 x12_1).f0)) ∧ w'.cell? ⟨(ad412.add ((x12_1).toNat * 4)).block, (ad412.add ((x12_1).toNat * 4)).off + 1, none⟩ = some (.int .i64 ((rd_T147 l0 x12_1).f1)) ∧ w'.cell? ⟨(ad412.add ((x12_1).toNat * 4)).block, (ad412.add ((x12_1).toNat * 4)).off + 2, none⟩ = some (.int .i64 ((rd_T147 l0 x12_1).f2)) ∧ w'.cell? ⟨(ad412.add ((x12_1).toNat * 4)).block, (ad412.add ((x12_1).toNat * 4)).off + 3, none⟩ = some (.bool ((rd_T147 l0 x12_1).f3))) (ds := []) (bitsA 10 0) (by kernel_rfl) rfl rfl ⟨bc BK407 0, bc BK407 1, bc BK407 2, (cw hw412_0), (cw hw412_1), (cw hw412_2), (cw hw412_3)⟩ (fun hHeld => ?_); refine with_tabW spec_ClassesOf.tab7 spec_ClassesOf.bits7 (fun HT_ HW_ => ?_)
           generalize wr.drew = w16 at HO_11 BK407 HB hx412_0 hx412_1 hx412_2 hx412_3 hHeld ⊢
           refine pu 0 (some 24) (bitsA 10 1) ?_
           refine pu 1 (some 25) (bitsA 10 3) ?_
           refine pu 2 (some 26) (bitsA 10 7) ?_
           refine tk 3 (some 27) (bitsA 10 15) hHeld ?_ (hy := Or.inl ⟨by rfl, by rintro w' ⟨s0, s1, s2, s3, s4, s5, s6⟩; go_simp; with_reducible rfl⟩)
           refine pu 4 (some 28) (bitsA 10 31) ?_
           refine pu 5 (some 29) (bitsA 10 63) ?_
           refine pu 6 (some 30) (bitsA 10 127) ?_
           refine tk 7 (some 31) (bitsA 10 255) hHeld ?_ (hy := Or.inl ⟨by rfl, by rintro w' ⟨s0, s1, s2, s3, s4, s5, s6⟩; go_simp; with_reducible rfl⟩)
           refine one_ (i := 8) (N := some 32) (bitsA 10 511) rfl rfl (one_of HT_.out (by kernel_rfl)) (by decide) (fun K hK => ?_)
           refine goes_ Try.func87 (by kernel_rfl) rfl #[.agg #[.string ((rd_T147 l0 x12_1).f0), .int .i64 ((rd_T147 l0 x12_1).f1), .int .i64 ((rd_T147 l0 x12_1).f2), .bool ((rd_T147 l0 x12_1).f3)], .slice A1 l1.length c1, .string a2, .int .i64 a3, .agg #[.int .i64 a4_0, .int .i64 a4_1, .int .i64 a4_2]] (by rfl) rfl rfl mt ?_
           with_reducible refine (spec_ClassOf.calls k1 ((rd_T147 l0 x12_1).f0) ((rd_T147 l0 x12_1).f1) ((rd_T147 l0 x12_1).f2) ((rd_T147 l0 x12_1).f3) _ _ l1 a2 a3 a4_0 a4_1 a4_2 t413 _ ?side1 ?side2 A14.out).mono ?_
           (case side1 => exact cb HR1)
           (case side2 => exact HC1.out)
           rintro e w17 ⟨rfl, hb⟩
           refine ⟨_, rfl, ?_⟩
           replace HO_11 := ak (Kd.R_below (kr HO_11) hb)
           replace BK407 := bb BK407 hb
           replace HB := ak (below_step (bl1 GE407) hb)
           (try clear hb)
           (try clear hb2)
           (try clear hk)
           (try clear hi)
           refine hK.out _ _ ⟨bc BK407 0, bc BK407 1, bc BK407 2, (cw hw412_0), (cw hw412_1), (cw hw412_2), (cw hw412_3)⟩ (fun hHeld => ?_)
           clear hK K
           refine nm ?_
           refine pu 9 (some 13) (bitsA 10 1023) ?_
           refine done_ (done_of HT_.out (by kernel_rfl)) ?_
           try go_wp2
           go_ret
           exact ⟨_, ew, by first | exact Kd.R_nil _ _ _ _ _ | exact Kd.N_nil _ _ _ _ _ | exact Kd.V_nil _ _ _ _ _ | exact Kd.Q_nil _ _ _ _ _ | exact Kd.S_nil _ _ _ _ _, bl1 GE407⟩
         · rw [if_neg c15] at H
           have c15b0 : decide (t413 < 0) = false := decide_eq_false c15
           clear c15
           by_cases c18 : x11_1.length < 17592186044416
           · rw [if_pos c18] at H
             have LMc18 := Aside0.mk c18
             clear c18
             obtain ⟨y414, hy414⟩ : ∃ y_ : List Int, y_ = (x11_1 ++ [t413]) := ⟨_, rfl⟩
             replace H : (spec_ClassesOf.l0 k1 l0 l1 a2 a3 y414 (wrap64 (x12_1 + 1)) a4_0 a4_1 a4_2) = some r := by first | (rw [hy414]; with_reducible exact H) | (have H2_ := (Option.bind_some _ _).symm.trans H; rw [hy414]; with_reducible exact H2_) | (have H2_ := (Option.bind_some _ _).symm.trans H; with_reducible exact H2_) | with_reducible exact H | (rw [hy414]; exact H) | exact H
             have Ny414 := Aside0.mk hy414
             clear hy414
             have H' := Aside0.mk H
             clear H
             try go_wp2
             replace HO_11 := ak (Kd.R_drew HO_11.out)
             replace BK407 := ak (blk_drew BK407.out)
             replace HB := ak (below_drew1 HB.out)
             have p412 : 0 ≤ (x12_1 : Int) := of_decide_eq_true am
             have q412 : x12_1 < (l0.length : Int) := of_decide_eq_true am
             obtain ⟨ad412, e412, hx412_0, hx412_1, hx412_2, hx412_3⟩ := at_T147 HR0.out x12_1 p412 q412
             have hw412_3 := hx412_3
             have hw412_2 := hx412_2
             have hw412_1 := hx412_1
             have hw412_0 := hx412_0
             cases e412
             replace hx412_0 := cw hx412_0
             replace hx412_1 := cw hx412_1
             replace hx412_2 := cw hx412_2
             replace hx412_3 := cw hx412_3
             replace p412 := eq_true p412
             replace q412 := eq_true q412
             refine start_ (n := 10) (S := fun w' => w'.cell? ⟨gb407, 0, none⟩ = some (.int .i64 a4_0) ∧ w'.cell? ⟨gb407, 1, none⟩ = some (.int .i64 a4_1) ∧ w'.cell? ⟨gb407, 2, none⟩ = some (.int .i64 a4_2) ∧ w'.cell? (ad412.add ((x12_1).toNat * 4)) = some (.string ((rd_T147 l0 x12_1).f0)) ∧ w'.cell? ⟨(ad412.add ((x12_1).toNat * 4)).block, (ad412.add ((x12_1).toNat * 4)).off + 1, none⟩ = some (.int .i64 ((rd_T147 l0 x12_1).f1)) ∧ w'.cell? ⟨(ad412.add ((x12_1).toNat * 4)).block, (ad412.add ((x12_1).toNat * 4)).off + 2, none⟩ = some (.int .i64 ((rd_T147 l0 x12_1).f2)) ∧ w'.cell? ⟨(ad412.add ((x12_1).toNat * 4)).block, (ad412.add ((x12_1).toNat * 4)).off + 3, none⟩ = some (.bool ((rd_T147 l0 x12_1).f3))) (ds := []) (bitsA 10 0) (by kernel_rfl) rfl rfl ⟨bc BK407 0, bc BK407 1, bc BK407 2, (cw hw412_0), (cw hw412_1), (cw hw412_2), (cw hw412_3)⟩ (fun hHeld => ?_); refine with_tabW spec_ClassesOf.tab7 spec_ClassesOf.bits7 (fun HT_ HW_ => ?_)
             generalize wr.drew = w19 at HO_11 BK407 HB hx412_0 hx412_1 hx412_2 hx412_3 hHeld ⊢
             refine pu 0 (some 24) (bitsA 10 1) ?_
             refine pu 1 (some 25) (bitsA 10 3) ?_
             refine pu 2 (some 26) (bitsA 10 7) ?_
             refine tk 3 (some 27) (bitsA 10 15) hHeld ?_ (hy := Or.inl ⟨by rfl, by rintro w' ⟨s0, s1, s2, s3, s4, s5, s6⟩; go_simp; with_reducible rfl⟩)
             refine pu 4 (some 28) (bitsA 10 31) ?_
             refine pu 5 (some 29) (bitsA 10 63) ?_
             refine pu 6 (some 30) (bitsA 10 127) ?_
             refine tk 7 (some 31) (bitsA 10 255) hHeld ?_ (hy := Or.inl ⟨by rfl, by rintro w' ⟨s0, s1, s2, s3, s4, s5, s6⟩; go_simp; with_reducible rfl⟩)
             refine one_ (i := 8) (N := some 32) (bitsA 10 511) rfl rfl (one_of HT_.out (by kernel_rfl)) (by decide) (fun K hK => ?_)
             refine goes_ Try.func87 (by kernel_rfl) rfl #[.agg #[.string ((rd_T147 l0 x12_1).f0), .int .i64 ((rd_T147 l0 x12_1).f1), .int .i64 ((rd_T147 l0 x12_1).f2), .bool ((rd_T147 l0 x12_1).f3)], .slice A1 l1.length c1, .string a2, .int .i64 a3, .agg #[.int .i64 a4_0, .int .i64 a4_1, .int .i64 a4_2]] (by rfl) rfl rfl mt ?_
             with_reducible refine (spec_ClassOf.calls k1 ((rd_T147 l0 x12_1).f0) ((rd_T147 l0 x12_1).f1) ((rd_T147 l0 x12_1).f2) ((rd_T147 l0 x12_1).f3) _ _ l1 a2 a3 a4_0 a4_1 a4_2 t413 _ ?side1 ?side2 A14.out).mono ?_
             (case side1 => exact cb HR1)
             (case side2 => exact HC1.out)
             rintro e w20 ⟨rfl, hb⟩
             refine ⟨_, rfl, ?_⟩
             replace HO_11 := ak (Kd.R_below (kr HO_11) hb)
             replace BK407 := bb BK407 hb
             replace HB := ak (below_step (bl1 GE407) hb)
             (try clear hb)
             (try clear hb2)
             (try clear hk)
             (try clear hi)
             refine hK.out _ _ ⟨bc BK407 0, bc BK407 1, bc BK407 2, (cw hw412_0), (cw hw412_1), (cw hw412_2), (cw hw412_3)⟩ (fun hHeld => ?_)
             clear hK K
             refine nm ?_
             refine pu 9 (some 13) (bitsA 10 1023) ?_
             refine done_ (done_of HT_.out (by kernel_rfl)) ?_
             try go_wp2_with (first | ((with_reducible refine gate_builtin (b := .append) (xs := #[.tmp 35, .tmp 37]) rfl ?_); at_builtin; refine Kd.R_append (Kd.int .i64) (w0 := w) w.heap.size rfl (.tmp 35) (.tmp 37) 25 3 (.int .i64 0) 8 rfl Try.underlying25 info3 rfl (by decide) (by omega) u11 x11_1 t413 [.int .i64 t413] (fun _ => True) (fun _ => False) rfl rfl ?aP (fun _ hk => hk.elim) ?aF ?aO ?aB ?aS ?aL ?_; (case aP => exact rfl); (case aB => exact (bl1 GE407)); (case aF => exact (fun _ _ => trivial)); (case aO => exact (kr HO_11)); (case aS => exact (below_size (bl1 GE407))); (case aL => have := LMc18.out; omega); intro v415 w21 ho hb hg hat; rw [← Ny414.out] at ho; replace BK407 := ak (blk_grown (g := gb407) (o := .cells #[.int .i64 a4_0, .int .i64 a4_1, .int .i64 a4_2] 61 (0, 0)) (bk BK407) hg (Kd.R_ne HO_11.out BK407.out (by decide))); replace HB := ak hb; have HO416 := ak ho; clear HO_11; clear ho hb hg hat))
             go_roundg k1
             case measure => have := HK1.out; omega
             case rel => exact ⟨(y414), (wrap64 (x12_1 + 1)), es, H', ⟨kp⟩, ⟨kr HO416⟩, ⟨bk BK407⟩, ⟨bl1 GE407⟩⟩
           · rw [if_neg c18] at H
             exact absurd H (by simp)
       · rw [if_neg c13] at H
         exact absurd H (by simp)
     · rw [if_neg c12] at H
       have c12b0 : decide (x12_1 < (l0.length : Int)) = false := decide_eq_false c12
       clear c12
       obtain rfl := Option.some.inj H
       go_wp2
       go_ret
       exact ⟨_, ew, kr HO_11, bl1 GE407⟩
 · replace c7 := Bool.eq_false_iff.mpr c7
   subst c7
   replace H := iF H
   obtain rfl := Option.some.inj H
   go_enter Try.func33, Try.ntmps33
   go_wp2_with (first | ((with_reducible refine gate_dst (N := 9) rfl ?_); refine bx 9 #[.int .i64 a4_0, .int .i64 a4_1, .int .i64 a4_2] 61 ?_; intro gb407 hg w22 hbox hb; have BK407 := ak hbox; have GW407 := gs hg bl; have GE407 := gs hg bl; replace HB := ak (below_step bl hb); clear hb hbox hg) | ((with_reducible refine gate_dst (N := 14) rfl ?_); refine Kd.R_lit (Kd.int .i64) _ 3 ?hg (N := 14) ?hd (xs := ([] : List Int)) (inner := []) (ok := fun _ => True) (okp := fun _ => True) ?hr ?hp (fun _ hk => hk) trivial (Below.refl _ _) (Nat.le_refl _) (by simp) ?_; (case hd => rfl); (case hg => rfl); (case hr => first | (go_simp; done) | (go_simp; rfl)); (case hp => exact (Reps.none _ _)); intro v409 w23 ho24 hb hg_ hnew_; clear hg_ hnew_; (first | rw [← Ny408.out] at ho24 | (simp only [Int.reduceToNat] at ho24; rw [← Ny408.out] at ho24)); have HO410 := ak (Kd.R_lower ho24 (below_size (bl1 GE407))); replace BK407 := bb BK407 hb; replace HB := ak (below_step (bl1 GE407) hb); clear hb ho24) | ((with_reducible refine gate_callee (f := 86) rfl ?_); refine gl (some 16) Try.func86 #[.slice A0 l0.length c0] ?_; (with_reducible refine (spec_PodsOk.calls k _ _ l0 false _ ?side1 ?side2 A6.out).mono ?_); (case side1 => exact cb HR0); (case side2 => exact HC0.out); rintro e w25 ⟨rfl, hb⟩; refine ⟨_, rfl, ?_⟩; replace HO410 := ak (Kd.R_below (kr HO410) hb); replace BK407 := bb BK407 hb; replace HB := ak (below_step (bl1 GE407) hb); (try clear hb); (try clear hb2); (try clear hk); (try clear hi)))
   go_ret
   exact ⟨_, ew, by first | exact Kd.R_nil _ _ _ _ _ | exact Kd.N_nil _ _ _ _ _ | exact Kd.V_nil _ _ _ _ _ | exact Kd.Q_nil _ _ _ _ _ | exact Kd.S_nil _ _ _ _ _, bl1 GE407⟩

end Go.Proofs.Ytplekidnlofioaa.Q
namespace Go.Proofs.Ytplekidnlofioaa.Q
open Go.RowKit Go.Proofs.YtplekidnlofioaaW.PrintWords Go.Proofs.YtplekidnlofioaaW.PrintLast Go.Proofs.YtplekidnlofioaaW.PrintMore
attribute [local go_sem] max2_int min2_int max_two min_two max_three min_three max_four min_four   -- for this text's walks alone
set_option linter.unusedVariables false
set_option linter.unusedSimpArgs false

/-! ### impl_PodOk: function 139 -/
def impl_PodOk.f (k : Nat) (a0_0 : ByteArray) (a0_1 : Int) (a0_2 : Int) (a0_3 : Bool) : Option (Bool) := (impl_NameOk.f k a0_0).bind fun t433 => (if t433 = true then ((impl_isTick.f a0_1).bind fun t434 => (if t434 = true then ((impl_in.f a0_2 0 2).bind fun t435 => (some t435)) else (some false))) else (some false))
theorem impl_PodOk.mono : ∀ a0 a1 a2 a3 k, LeO (impl_PodOk.f k a0 a1 a2 a3) (impl_PodOk.f (k + 1) a0 a1 a2 a3) := by
 intro a0 a1 a2 a3 k
 unfold impl_PodOk.f
 repeat' first
  | (with_reducible exact impl_NameOk.mono _ _)
  | (with_reducible exact LeO.refl _)
  | (with_reducible exact LeO.none _)
  | (with_reducible refine LeO.ite ?_ ?_)
  | (with_reducible refine LeO.bind ?_ (fun _ => ?_))
  | exact impl_NameOk.mono _ _
  | exact LeO.none _
  | refine LeO.ite ?_ ?_
  | refine LeO.bind ?_ (fun _ => ?_)
set_option maxHeartbeats 8000000 in
set_option maxRecDepth 100000 in
theorem impl_PodOk.calls (k : Nat) (a0_0 : ByteArray) (a0_1 : Int) (a0_2 : Int) (a0_3 : Bool) (r : Bool) (w : World) (h : impl_PodOk.f k a0_0 a0_1 a0_2 a0_3 = some r) :
 Calls Try.prog 139 #[.agg #[.string a0_0, .int .i64 a0_1, .int .i64 a0_2, .bool a0_3]] w fun e w' => e = .returned (.bool r) ∧ Below w.heap.size w w' := by
 have hu147 := Try.underlying147
 have HB := Aside0.mk (Below.refl w.heap.size w)
 have H : ((impl_NameOk.f k a0_0).bind fun t433 => (if t433 = true then ((impl_isTick.f a0_1).bind fun t434 => (if t434 = true then ((impl_in.f a0_2 0 2).bind fun t435 => (some t435)) else (some false))) else (some false))) = some r := h
 clear h
 obtain ⟨t433, A20, H⟩ := bo H
 have A2 := Aside0.mk A20
 clear A20
 by_cases c3 : t433 = true
 · subst c3
   replace H := iT H
   obtain ⟨t434, A40, H⟩ := bo H
   have A4 := Aside0.mk A40
   clear A40
   by_cases c5 : t434 = true
   · subst c5
     replace H := iT H
     obtain ⟨t435, A60, H⟩ := bo H
     have A6 := Aside0.mk A60
     clear A60
     obtain rfl := Option.some.inj H
     go_enter Try.func139, Try.ntmps139
     go_wp2_with (first | ((with_reducible refine gate_dst (N := 1) rfl ?_); refine bx 1 #[.string a0_0, .int .i64 a0_1, .int .i64 a0_2, .bool a0_3] 147 ?_; intro gb432 hg w7 hbox hb; have BK432 := ak hbox; have GW432 := gs hg bl; have GE432 := gs hg bl; replace HB := ak (below_step bl hb); clear hb hbox hg; obtain ⟨hcz8_0, hcz8_1, hcz8_2, hcz8_3, hfz8_0, hfz8_1, hfz8_2, hfz8_3⟩ := cz4 BK432) | ((with_reducible refine gate_callee (f := 151) rfl ?_); refine gl (some 5) Try.func151 #[.string a0_0] ?_; (with_reducible refine (impl_NameOk.calls k a0_0 true _ A2.out).mono ?_); rintro e w' ⟨rfl, ⟨nd, rfl⟩⟩; refine ⟨_, rfl, ?_⟩) | (go_at_call 122; (with_reducible refine (impl_isTick.calls a0_1 true _ A4.out).mono ?_); rintro e w' ⟨rfl, ⟨nd, rfl⟩⟩) | (go_at_call 124; (with_reducible refine (impl_in.calls a0_2 0 2 t435 _ A6.out).mono ?_); rintro e w' ⟨rfl, ⟨nd, rfl⟩⟩))
     go_ret
     exact ⟨ew, bl1 GE432⟩
   · replace c5 := Bool.eq_false_iff.mpr c5
     subst c5
     replace H := iF H
     obtain rfl := Option.some.inj H
     go_enter Try.func139, Try.ntmps139
     go_wp2_with (first | ((with_reducible refine gate_dst (N := 1) rfl ?_); refine bx 1 #[.string a0_0, .int .i64 a0_1, .int .i64 a0_2, .bool a0_3] 147 ?_; intro gb432 hg w9 hbox hb; have BK432 := ak hbox; have GW432 := gs hg bl; have GE432 := gs hg bl; replace HB := ak (below_step bl hb); clear hb hbox hg; obtain ⟨hcz10_0, hcz10_1, hcz10_2, hcz10_3, hfz10_0, hfz10_1, hfz10_2, hfz10_3⟩ := cz4 BK432) | ((with_reducible refine gate_callee (f := 151) rfl ?_); refine gl (some 5) Try.func151 #[.string a0_0] ?_; (with_reducible refine (impl_NameOk.calls k a0_0 true _ A2.out).mono ?_); rintro e w' ⟨rfl, ⟨nd, rfl⟩⟩; refine ⟨_, rfl, ?_⟩) | (go_at_call 122; (with_reducible refine (impl_isTick.calls a0_1 false _ A4.out).mono ?_); rintro e w' ⟨rfl, ⟨nd, rfl⟩⟩))
     go_ret
     exact ⟨ew, bl1 GE432⟩
 · replace c3 := Bool.eq_false_iff.mpr c3
   subst c3
   replace H := iF H
   obtain rfl := Option.some.inj H
   go_enter Try.func139, Try.ntmps139
   go_wp2_with (first | ((with_reducible refine gate_dst (N := 1) rfl ?_); refine bx 1 #[.string a0_0, .int .i64 a0_1, .int .i64 a0_2, .bool a0_3] 147 ?_; intro gb432 hg w11 hbox hb; have BK432 := ak hbox; have GW432 := gs hg bl; have GE432 := gs hg bl; replace HB := ak (below_step bl hb); clear hb hbox hg; obtain ⟨hcz12_0, hcz12_1, hcz12_2, hcz12_3, hfz12_0, hfz12_1, hfz12_2, hfz12_3⟩ := cz4 BK432) | ((with_reducible refine gate_callee (f := 151) rfl ?_); refine gl (some 5) Try.func151 #[.string a0_0] ?_; (with_reducible refine (impl_NameOk.calls k a0_0 false _ A2.out).mono ?_); rintro e w' ⟨rfl, ⟨nd, rfl⟩⟩; refine ⟨_, rfl, ?_⟩))
   go_ret
   exact ⟨ew, bl1 GE432⟩

end Go.Proofs.Ytplekidnlofioaa.Q
namespace Go.Proofs.Ytplekidnlofioaa.Q
open Go.RowKit Go.Proofs.YtplekidnlofioaaW.PrintWords Go.Proofs.YtplekidnlofioaaW.PrintLast Go.Proofs.YtplekidnlofioaaW.PrintMore
attribute [local go_sem] max2_int min2_int max_two min_two max_three min_three max_four min_four   -- for this text's walks alone
set_option linter.unusedVariables false
set_option linter.unusedSimpArgs false

/-! ### impl_PodsOk: function 89 -/
def impl_PodsOk.l0 : Nat → List (S147) → List (S147) → Int → Int → Option (Bool)
 | 0, _, _, _, _ => none
 | k + 1, x0, x5, x6, x7 => if x7 < x6 then (if 0 ≤ x7 then (if x7 < (x5.length : Int) then ((impl_PodOk.f k ((rd_T147 x5 x7).f0) ((rd_T147 x5 x7).f1) ((rd_T147 x5 x7).f2) ((rd_T147 x5 x7).f3)).bind fun t438 => (if t438 = true then (if x7 > 0 then (if 0 ≤ (wrap64 (x7 - 1)) then (if (wrap64 (x7 - 1)) < (x0.length : Int) then (if ((Op.bytesLess (((rd_T147 x0 (wrap64 (x7 - 1))).f0).toList) (((rd_T147 x5 x7).f0).toList)) = true) then (impl_PodsOk.l0 k x0 x5 x6 (wrap64 (x7 + 1))) else (some false)) else (none)) else (none)) else (impl_PodsOk.l0 k x0 x5 x6 (wrap64 (x7 + 1)))) else (some false))) else (none)) else (none)) else (some (decide ((x0.length : Int) ≤ 12)))
def impl_PodsOk.f (k : Nat) (l0 : List (S147)) : Option (Bool) := impl_PodsOk.l0 k l0 l0 (l0.length : Int) 0
theorem impl_PodsOk.mono_l : ∀ k, (∀ y0 y1 y2 y3, LeO (impl_PodsOk.l0 k y0 y1 y2 y3) (impl_PodsOk.l0 (k + 1) y0 y1 y2 y3))
 | 0 => fun _ _ _ _ r h => by simp [impl_PodsOk.l0] at h
 | k + 1 => by
  have ih0 := impl_PodsOk.mono_l k
  · intro y0 y1 y2 y3
    unfold impl_PodsOk.l0
    repeat' first
    | (with_reducible exact ih0 _ _ _ _)
    | (with_reducible exact impl_PodOk.mono _ _ _ _ _)
    | (with_reducible exact LeO.refl _)
    | (with_reducible exact LeO.none _)
    | (with_reducible refine LeO.ite ?_ ?_)
    | (with_reducible refine LeO.bind ?_ (fun _ => ?_))
    | exact ih0 _ _ _ _
    | exact impl_PodOk.mono _ _ _ _ _
    | exact LeO.none _
    | refine LeO.ite ?_ ?_
    | refine LeO.bind ?_ (fun _ => ?_)
theorem impl_PodsOk.mono : ∀ a0 k, LeO (impl_PodsOk.f k a0) (impl_PodsOk.f (k + 1) a0) := by
 intro a0 k
 have ih0 := impl_PodsOk.mono_l k
 unfold impl_PodsOk.f
 repeat' first
  | (with_reducible exact ih0 _ _ _ _)
  | (with_reducible exact impl_PodOk.mono _ _ _ _ _)
  | (with_reducible exact LeO.refl _)
  | (with_reducible exact LeO.none _)
  | (with_reducible refine LeO.ite ?_ ?_)
  | (with_reducible refine LeO.bind ?_ (fun _ => ?_))
  | exact ih0 _ _ _ _
  | exact impl_PodOk.mono _ _ _ _ _
  | exact LeO.none _
  | refine LeO.ite ?_ ?_
  | refine LeO.bind ?_ (fun _ => ?_)
def impl_PodsOk.T4 : Bool × List (List Nat × List Nat) := (true, [([], []), ([0], [0]), ([1], [1]), ([2, 1], [2]), ([3], [3]), ([4, 3], [3, 4]), ([5, 3, 3], [3, 5]), ([6], [6]), ([6], [6]), ([8, 6], [6, 8]), ([7, 9, 6], [6, 7, 9]), ([10, 6], [6, 10]), ([11, 6], [6, 11]), ([6], [6]), ([13, 6], [6, 13]), ([12, 14, 6], [6, 12, 14]), ([6, 15, 3], [3, 6, 15]), ([3, 16], [3, 16])])
def impl_PodsOk.B4 : List Nat := [0, 1, 3, 7, 15, 31, 63, 127, 127, 383, 1023, 2047, 4095, 127, 8319, 32767, 65535, 131071]
theorem impl_PodsOk.tab4 : rtab .any (opsOf Try.f89 4) = impl_PodsOk.T4 := by kernel_rfl
theorem impl_PodsOk.bits4 : waitsOk impl_PodsOk.T4.2 impl_PodsOk.B4 = true := by kernel_rfl
set_option maxHeartbeats 8000000 in
set_option maxRecDepth 100000 in
theorem impl_PodsOk.calls (k : Nat) (A0 : Option Addr) (c0 : Nat) (l0 : List (S147)) (r : Bool) (w : World) (hr0 : Kd.C k147 w A0 l0.length l0) (hc0 : l0.length ≤ c0) (h : impl_PodsOk.f k l0 = some r) :
 Calls Try.prog 89 #[.slice A0 l0.length c0] w fun e w' => e = .returned (.bool r) ∧ Below w.heap.size w w' := by
 have hu147 := Try.underlying147
 have HR0 := Aside0.mk hr0
 have HC0 := Aside0.mk hc0
 clear hr0 hc0
 have HB := Aside0.mk (Below.refl w.heap.size w)
 have H : (impl_PodsOk.l0 k l0 l0 (l0.length : Int) 0) = some r := h
 clear h
 have H' := Aside0.mk H
 clear H
 go_enter Try.func89, Try.ntmps89
 go_wp2
 go_loopg [7] k (fun kq v7 w' => ∃ (x7_1 : Int), v7 = .int .i64 x7_1 ∧ Aside0 (impl_PodsOk.l0 kq l0 l0 (l0.length : Int) x7_1 = some r) ∧ Aside0 (kq ≤ k) ∧ Aside0 (Below w.heap.size w w'))
 case atStart => exact ⟨(0), es, H', ⟨Nat.le_refl _⟩, ⟨bl⟩⟩
 case round =>
  clear H'
  obtain ⟨x7_1, rfl, HA, HK1, HB⟩ := hrel
  cases gk with
  | zero => exact absurd HA.out (by simp [impl_PodsOk.l0])
  | succ k1 =>
   have H := HA.out
   clear HA
   simp only [impl_PodsOk.l0] at H
   by_cases c2 : x7_1 < (l0.length : Int)
   · rw [if_pos c2] at H
     have c2b0 : decide (x7_1 < (l0.length : Int)) = true := decide_eq_true c2
     clear c2
     by_cases c3 : 0 ≤ x7_1
     · rw [if_pos c3] at H
       have c3b0 : decide (0 ≤ x7_1) = true := decide_eq_true c3
       clear c3
       by_cases c4 : x7_1 < (l0.length : Int)
       · rw [if_pos c4] at H
         have c4b0 : decide (x7_1 < (l0.length : Int)) = true := decide_eq_true c4
         clear c4
         obtain ⟨t438, A50, H⟩ := bo H
         have A5 := Aside0.mk A50
         clear A50
         by_cases c6 : t438 = true
         · subst c6
           replace H := iT H
           by_cases c7 : x7_1 > 0
           · rw [if_pos c7] at H
             have c7b0 : decide (0 < x7_1) = true := decide_eq_true c7
             clear c7
             obtain ⟨ji8, hji8⟩ : ∃ j_ : Int, (wrap64 (x7_1 - 1)) = j_ := ⟨_, rfl⟩
             replace H : (if 0 ≤ (ji8) then (if (ji8) < (l0.length : Int) then (if ((Op.bytesLess (((rd_T147 l0 (ji8)).f0).toList) (((rd_T147 l0 x7_1).f0).toList)) = true) then (impl_PodsOk.l0 k1 l0 l0 (l0.length : Int) (wrap64 (x7_1 + 1))) else (some false)) else (none)) else (none)) = some r := by first | (rw [hji8] at H; exact H) | (simp only [hji8] at H ⊢; exact H)
             (try rw [hji8] at A5)
             have hji8w : (IntKind.i64.wrap (x7_1 - 1)) = ji8 := (i64_w _).trans hji8
             by_cases c9 : 0 ≤ (ji8)
             · rw [if_pos c9] at H
               have c9b0 : decide (0 ≤ (ji8)) = true := decide_eq_true c9
               clear c9
               by_cases c10 : (ji8) < (l0.length : Int)
               · rw [if_pos c10] at H
                 have c10b0 : decide ((ji8) < (l0.length : Int)) = true := decide_eq_true c10
                 clear c10
                 by_cases c11 : ((Op.bytesLess (((rd_T147 l0 (ji8)).f0).toList) (((rd_T147 l0 x7_1).f0).toList)) = true)
                 · rw [if_pos c11] at H
                   have c11b0 : (Op.bytesLess (((rd_T147 l0 (ji8)).f0).toList) (((rd_T147 l0 x7_1).f0).toList)) = true := c11
                   clear c11
                   have H' := Aside0.mk H
                   clear H
                   have p436 : 0 ≤ (x7_1 : Int) := of_decide_eq_true am
                   have q436 : x7_1 < (l0.length : Int) := of_decide_eq_true am
                   obtain ⟨ad436, e436, hx436_0, hx436_1, hx436_2, hx436_3⟩ := at_T147 HR0.out x7_1 p436 q436
                   cases e436
                   replace hx436_0 := cw hx436_0
                   replace hx436_1 := cw hx436_1
                   replace hx436_2 := cw hx436_2
                   replace hx436_3 := cw hx436_3
                   replace p436 := eq_true p436
                   replace q436 := eq_true q436
                   try go_wp2_with (first | ((with_reducible refine gate_dst (N := 4) rfl ?_); refine bx 4 #[.string (⟨#[]⟩ : ByteArray), .int .i64 0, .int .i64 0, .bool false] 147 ?_; intro gb437 hg w12 hbox hb; have BK437 := ak hbox; have GW437 := gs hg bl; have GE437 := gs hg bl; replace HB := ak (below_step bl hb); clear hb hbox hg; obtain ⟨hcz13_0, hcz13_1, hcz13_2, hcz13_3, hfz13_0, hfz13_1, hfz13_2, hfz13_3⟩ := cz4 BK437))
                   have n0_ : Aside0 (((((w12.setCell ⟨gb437, 0, none⟩ (.string ((rd_T147 l0 x7_1).f0))).setCell ⟨gb437, 1, none⟩ (.int .i64 ((rd_T147 l0 x7_1).f1))).setCell ⟨gb437, 2, none⟩ (.int .i64 ((rd_T147 l0 x7_1).f2))).setCell ⟨gb437, 3, none⟩ (.bool ((rd_T147 l0 x7_1).f3))).heap[gb437]? = some (.cells #[.string ((rd_T147 l0 x7_1).f0), .int .i64 ((rd_T147 l0 x7_1).f1), .int .i64 ((rd_T147 l0 x7_1).f2), .bool ((rd_T147 l0 x7_1).f3)] 147 (0, 0))) := ⟨by (with_reducible repeat (first | refine blk_drewN ?_ _ | refine blk_drew ?_ | refine blk_alloc ?_ _)); refine blk_put (cs := #[.string ((rd_T147 l0 x7_1).f0), .int .i64 ((rd_T147 l0 x7_1).f1), .int .i64 ((rd_T147 l0 x7_1).f2), .bool false]) ?_ 3 _ rfl; (with_reducible repeat (first | refine blk_drewN ?_ _ | refine blk_drew ?_ | refine blk_alloc ?_ _)); refine blk_put (cs := #[.string ((rd_T147 l0 x7_1).f0), .int .i64 ((rd_T147 l0 x7_1).f1), .int .i64 0, .bool false]) ?_ 2 _ rfl; (with_reducible repeat (first | refine blk_drewN ?_ _ | refine blk_drew ?_ | refine blk_alloc ?_ _)); refine blk_put (cs := #[.string ((rd_T147 l0 x7_1).f0), .int .i64 0, .int .i64 0, .bool false]) ?_ 1 _ rfl; (with_reducible repeat (first | refine blk_drewN ?_ _ | refine blk_drew ?_ | refine blk_alloc ?_ _)); refine blk_put (cs := #[.string (⟨#[]⟩ : ByteArray), .int .i64 0, .int .i64 0, .bool false]) ?_ 0 _ rfl; (with_reducible repeat (first | refine blk_drewN ?_ _ | refine blk_drew ?_ | refine blk_alloc ?_ _)); exact BK437.out⟩
                   have n1_ : Aside0 (Below w.heap.size w ((((w12.setCell ⟨gb437, 0, none⟩ (.string ((rd_T147 l0 x7_1).f0))).setCell ⟨gb437, 1, none⟩ (.int .i64 ((rd_T147 l0 x7_1).f1))).setCell ⟨gb437, 2, none⟩ (.int .i64 ((rd_T147 l0 x7_1).f2))).setCell ⟨gb437, 3, none⟩ (.bool ((rd_T147 l0 x7_1).f3)))) := ⟨bl1 GE437⟩
                   (try clear BK437)
                   (try clear HB)
                   generalize ((((w12.setCell ⟨gb437, 0, none⟩ (.string ((rd_T147 l0 x7_1).f0))).setCell ⟨gb437, 1, none⟩ (.int .i64 ((rd_T147 l0 x7_1).f1))).setCell ⟨gb437, 2, none⟩ (.int .i64 ((rd_T147 l0 x7_1).f2))).setCell ⟨gb437, 3, none⟩ (.bool ((rd_T147 l0 x7_1).f3))) = w14 at n0_ n1_ ⊢
                   have BK437 := n0_
                   have HB := n1_
                   clear n0_ n1_
                   replace BK437 := ak (blk_drew BK437.out)
                   replace HB := ak (below_drew1 HB.out)
                   have p439 : 0 ≤ ((ji8) : Int) := of_decide_eq_true am
                   have q439 : (ji8) < (l0.length : Int) := of_decide_eq_true am
                   obtain ⟨ad439, e439, hx439_0, hx439_1, hx439_2, hx439_3⟩ := at_T147 HR0.out (ji8) p439 q439
                   have hw439_3 := hx439_3
                   have hw439_2 := hx439_2
                   have hw439_1 := hx439_1
                   have hw439_0 := hx439_0
                   obtain rfl : ad436 = ad439 := (by injection e439)
                   replace hx439_0 := cw hx439_0
                   replace hx439_1 := cw hx439_1
                   replace hx439_2 := cw hx439_2
                   replace hx439_3 := cw hx439_3
                   replace p439 := eq_true p439
                   replace q439 := eq_true q439
                   refine start_ (n := 18) (S := fun w' => w'.cell? ⟨gb437, 0, none⟩ = some (.string ((rd_T147 l0 x7_1).f0)) ∧ w'.cell? ⟨gb437, 1, none⟩ = some (.int .i64 ((rd_T147 l0 x7_1).f1)) ∧ w'.cell? ⟨gb437, 2, none⟩ = some (.int .i64 ((rd_T147 l0 x7_1).f2)) ∧ w'.cell? ⟨gb437, 3, none⟩ = some (.bool ((rd_T147 l0 x7_1).f3)) ∧ w'.cell? (ad436.add (((ji8)).toNat * 4)) = some (.string ((rd_T147 l0 (ji8)).f0)) ∧ w'.cell? ⟨(ad436.add (((ji8)).toNat * 4)).block, (ad436.add (((ji8)).toNat * 4)).off + 1, none⟩ = some (.int .i64 ((rd_T147 l0 (ji8)).f1)) ∧ w'.cell? ⟨(ad436.add (((ji8)).toNat * 4)).block, (ad436.add (((ji8)).toNat * 4)).off + 2, none⟩ = some (.int .i64 ((rd_T147 l0 (ji8)).f2)) ∧ w'.cell? ⟨(ad436.add (((ji8)).toNat * 4)).block, (ad436.add (((ji8)).toNat * 4)).off + 3, none⟩ = some (.bool ((rd_T147 l0 (ji8)).f3))) (ds := []) (bitsA 18 0) (by kernel_rfl) rfl rfl ⟨bc BK437 0, bc BK437 1, bc BK437 2, bc BK437 3, (cw hw439_0), (cw hw439_1), (cw hw439_2), (cw hw439_3)⟩ (fun hHeld => ?_); refine with_tabW impl_PodsOk.tab4 impl_PodsOk.bits4 (fun HT_ HW_ => ?_)
                   generalize w14.drew = w15 at BK437 HB hx439_0 hx439_1 hx439_2 hx439_3 hHeld ⊢
                   refine tk 0 (some 12) (bitsA 18 1) hHeld ?_ (hy := Or.inl ⟨by rfl, by rintro w' ⟨s0, s1, s2, s3, s4, s5, s6, s7⟩; go_simp; with_reducible rfl⟩)
                   refine one_ (i := 1) (N := some 13) (bitsA 18 3) rfl rfl (one_of HT_.out (by kernel_rfl)) (by decide) (fun K hK => ?_)
                   refine goes_ Try.func139 (by kernel_rfl) rfl #[.agg #[.string ((rd_T147 l0 x7_1).f0), .int .i64 ((rd_T147 l0 x7_1).f1), .int .i64 ((rd_T147 l0 x7_1).f2), .bool ((rd_T147 l0 x7_1).f3)]] (by rfl) rfl rfl mt ?_
                   with_reducible refine (impl_PodOk.calls k1 ((rd_T147 l0 x7_1).f0) ((rd_T147 l0 x7_1).f1) ((rd_T147 l0 x7_1).f2) ((rd_T147 l0 x7_1).f3) true _ A5.out).mono ?_
                   rintro e w16 ⟨rfl, hb⟩
                   refine ⟨_, rfl, ?_⟩
                   replace BK437 := bb BK437 hb
                   replace HB := ak (below_step (bl1 GE437) hb)
                   (try clear hb)
                   (try clear hb2)
                   (try clear hk)
                   (try clear hi)
                   refine hK.out _ _ ⟨bc BK437 0, bc BK437 1, bc BK437 2, bc BK437 3, (cw hw439_0), (cw hw439_1), (cw hw439_2), (cw hw439_3)⟩ (fun hHeld => ?_)
                   clear hK K
                   refine nm ?_
                   refine pu 2 (some 14) (bitsA 18 7) ?_
                   refine pu 3 (some 15) (bitsA 18 15) ?_
                   refine pu 4 (some 16) (bitsA 18 31) ?_
                   refine pu 5 (some 17) (bitsA 18 63) ?_
                   refine pu 6 (some 18) (bitsA 18 127) ?_
                   refine pu 7 (some 19) (bitsA 18 255) ?_
                   refine pu 8 (some 20) (bitsA 18 511) ?_
                   refine pu 9 (some 21) (bitsA 18 1023) ?_
                   refine pu 10 (some 22) (bitsA 18 2047) ?_
                   refine pu 11 (some 23) (bitsA 18 4095) ?_
                   refine tk 12 (some 24) (bitsA 18 8191) hHeld ?_ (hy := Or.inl ⟨by rfl, by rintro w' ⟨s0, s1, s2, s3, s4, s5, s6, s7⟩; go_simp; with_reducible rfl⟩)
                   refine pu 13 (some 25) (bitsA 18 16383) ?_
                   refine tk 14 (some 26) (bitsA 18 32767) hHeld ?_ (hy := Or.inl ⟨by rfl, by rintro w' ⟨s0, s1, s2, s3, s4, s5, s6, s7⟩; go_simp; with_reducible rfl⟩)
                   refine pu 15 (some 27) (bitsA 18 65535) ?_
                   refine pu 16 (some 28) (bitsA 18 131071) ?_
                   refine pu 17 (some 29) (bitsA 18 262143) ?_
                   refine done_ (done_of HT_.out (by kernel_rfl)) ?_
                   try go_wp2
                   go_roundg k1
                   case measure => have := HK1.out; omega
                   case rel => exact ⟨(wrap64 (x7_1 + 1)), es, H', ⟨kp⟩, ⟨bl1 GE437⟩⟩
                 · rw [if_neg c11] at H
                   have c11b0 : (Op.bytesLess (((rd_T147 l0 (ji8)).f0).toList) (((rd_T147 l0 x7_1).f0).toList)) = false := by simpa using c11
                   clear c11
                   obtain rfl := Option.some.inj H
                   have p436 : 0 ≤ (x7_1 : Int) := of_decide_eq_true am
                   have q436 : x7_1 < (l0.length : Int) := of_decide_eq_true am
                   obtain ⟨ad436, e436, hx436_0, hx436_1, hx436_2, hx436_3⟩ := at_T147 HR0.out x7_1 p436 q436
                   cases e436
                   replace hx436_0 := cw hx436_0
                   replace hx436_1 := cw hx436_1
                   replace hx436_2 := cw hx436_2
                   replace hx436_3 := cw hx436_3
                   replace p436 := eq_true p436
                   replace q436 := eq_true q436
                   try go_wp2_with (first | ((with_reducible refine gate_dst (N := 4) rfl ?_); refine bx 4 #[.string (⟨#[]⟩ : ByteArray), .int .i64 0, .int .i64 0, .bool false] 147 ?_; intro gb437 hg w17 hbox hb; have BK437 := ak hbox; have GW437 := gs hg bl; have GE437 := gs hg bl; replace HB := ak (below_step bl hb); clear hb hbox hg; obtain ⟨hcz18_0, hcz18_1, hcz18_2, hcz18_3, hfz18_0, hfz18_1, hfz18_2, hfz18_3⟩ := cz4 BK437))
                   have n0_ : Aside0 (((((w17.setCell ⟨gb437, 0, none⟩ (.string ((rd_T147 l0 x7_1).f0))).setCell ⟨gb437, 1, none⟩ (.int .i64 ((rd_T147 l0 x7_1).f1))).setCell ⟨gb437, 2, none⟩ (.int .i64 ((rd_T147 l0 x7_1).f2))).setCell ⟨gb437, 3, none⟩ (.bool ((rd_T147 l0 x7_1).f3))).heap[gb437]? = some (.cells #[.string ((rd_T147 l0 x7_1).f0), .int .i64 ((rd_T147 l0 x7_1).f1), .int .i64 ((rd_T147 l0 x7_1).f2), .bool ((rd_T147 l0 x7_1).f3)] 147 (0, 0))) := ⟨by (with_reducible repeat (first | refine blk_drewN ?_ _ | refine blk_drew ?_ | refine blk_alloc ?_ _)); refine blk_put (cs := #[.string ((rd_T147 l0 x7_1).f0), .int .i64 ((rd_T147 l0 x7_1).f1), .int .i64 ((rd_T147 l0 x7_1).f2), .bool false]) ?_ 3 _ rfl; (with_reducible repeat (first | refine blk_drewN ?_ _ | refine blk_drew ?_ | refine blk_alloc ?_ _)); refine blk_put (cs := #[.string ((rd_T147 l0 x7_1).f0), .int .i64 ((rd_T147 l0 x7_1).f1), .int .i64 0, .bool false]) ?_ 2 _ rfl; (with_reducible repeat (first | refine blk_drewN ?_ _ | refine blk_drew ?_ | refine blk_alloc ?_ _)); refine blk_put (cs := #[.string ((rd_T147 l0 x7_1).f0), .int .i64 0, .int .i64 0, .bool false]) ?_ 1 _ rfl; (with_reducible repeat (first | refine blk_drewN ?_ _ | refine blk_drew ?_ | refine blk_alloc ?_ _)); refine blk_put (cs := #[.string (⟨#[]⟩ : ByteArray), .int .i64 0, .int .i64 0, .bool false]) ?_ 0 _ rfl; (with_reducible repeat (first | refine blk_drewN ?_ _ | refine blk_drew ?_ | refine blk_alloc ?_ _)); exact BK437.out⟩
                   have n1_ : Aside0 (Below w.heap.size w ((((w17.setCell ⟨gb437, 0, none⟩ (.string ((rd_T147 l0 x7_1).f0))).setCell ⟨gb437, 1, none⟩ (.int .i64 ((rd_T147 l0 x7_1).f1))).setCell ⟨gb437, 2, none⟩ (.int .i64 ((rd_T147 l0 x7_1).f2))).setCell ⟨gb437, 3, none⟩ (.bool ((rd_T147 l0 x7_1).f3)))) := ⟨bl1 GE437⟩
                   (try clear BK437)
                   (try clear HB)
                   generalize ((((w17.setCell ⟨gb437, 0, none⟩ (.string ((rd_T147 l0 x7_1).f0))).setCell ⟨gb437, 1, none⟩ (.int .i64 ((rd_T147 l0 x7_1).f1))).setCell ⟨gb437, 2, none⟩ (.int .i64 ((rd_T147 l0 x7_1).f2))).setCell ⟨gb437, 3, none⟩ (.bool ((rd_T147 l0 x7_1).f3))) = w19 at n0_ n1_ ⊢
                   have BK437 := n0_
                   have HB := n1_
                   clear n0_ n1_
                   replace BK437 := ak (blk_drew BK437.out)
                   replace HB := ak (below_drew1 HB.out)
                   have p439 : 0 ≤ ((ji8) : Int) := of_decide_eq_true am
                   have q439 : (ji8) < (l0.length : Int) := of_decide_eq_true am
                   obtain ⟨ad439, e439, hx439_0, hx439_1, hx439_2, hx439_3⟩ := at_T147 HR0.out (ji8) p439 q439
                   have hw439_3 := hx439_3
                   have hw439_2 := hx439_2
                   have hw439_1 := hx439_1
                   have hw439_0 := hx439_0
                   obtain rfl : ad436 = ad439 := (by injection e439)
                   replace hx439_0 := cw hx439_0
                   replace hx439_1 := cw hx439_1
                   replace hx439_2 := cw hx439_2
                   replace hx439_3 := cw hx439_3
                   replace p439 := eq_true p439
                   replace q439 := eq_true q439
                   refine start_ (n := 18) (S := fun w' => w'.cell? ⟨gb437, 0, none⟩ = some (.string ((rd_T147 l0 x7_1).f0)) ∧ w'.cell? ⟨gb437, 1, none⟩ = some (.int .i64 ((rd_T147 l0 x7_1).f1)) ∧ w'.cell? ⟨gb437, 2, none⟩ = some (.int .i64 ((rd_T147 l0 x7_1).f2)) ∧ w'.cell? ⟨gb437, 3, none⟩ = some (.bool ((rd_T147 l0 x7_1).f3)) ∧ w'.cell? (ad436.add (((ji8)).toNat * 4)) = some (.string ((rd_T147 l0 (ji8)).f0)) ∧ w'.cell? ⟨(ad436.add (((ji8)).toNat * 4)).block, (ad436.add (((ji8)).toNat * 4)).off + 1, none⟩ = some (.int .i64 ((rd_T147 l0 (ji8)).f1)) ∧ w'.cell? ⟨(ad436.add (((ji8)).toNat * 4)).block, (ad436.add (((ji8)).toNat * 4)).off + 2, none⟩ = some (.int .i64 ((rd_T147 l0 (ji8)).f2)) ∧ w'.cell? ⟨(ad436.add (((ji8)).toNat * 4)).block, (ad436.add (((ji8)).toNat * 4)).off + 3, none⟩ = some (.bool ((rd_T147 l0 (ji8)).f3))) (ds := []) (bitsA 18 0) (by kernel_rfl) rfl rfl ⟨bc BK437 0, bc BK437 1, bc BK437 2, bc BK437 3, (cw hw439_0), (cw hw439_1), (cw hw439_2), (cw hw439_3)⟩ (fun hHeld => ?_); refine with_tabW impl_PodsOk.tab4 impl_PodsOk.bits4 (fun HT_ HW_ => ?_)
                   generalize w19.drew = w20 at BK437 HB hx439_0 hx439_1 hx439_2 hx439_3 hHeld ⊢
                   refine tk 0 (some 12) (bitsA 18 1) hHeld ?_ (hy := Or.inl ⟨by rfl, by rintro w' ⟨s0, s1, s2, s3, s4, s5, s6, s7⟩; go_simp; with_reducible rfl⟩)
                   refine one_ (i := 1) (N := some 13) (bitsA 18 3) rfl rfl (one_of HT_.out (by kernel_rfl)) (by decide) (fun K hK => ?_)
                   refine goes_ Try.func139 (by kernel_rfl) rfl #[.agg #[.string ((rd_T147 l0 x7_1).f0), .int .i64 ((rd_T147 l0 x7_1).f1), .int .i64 ((rd_T147 l0 x7_1).f2), .bool ((rd_T147 l0 x7_1).f3)]] (by rfl) rfl rfl mt ?_
                   with_reducible refine (impl_PodOk.calls k1 ((rd_T147 l0 x7_1).f0) ((rd_T147 l0 x7_1).f1) ((rd_T147 l0 x7_1).f2) ((rd_T147 l0 x7_1).f3) true _ A5.out).mono ?_
                   rintro e w21 ⟨rfl, hb⟩
                   refine ⟨_, rfl, ?_⟩
                   replace BK437 := bb BK437 hb
                   replace HB := ak (below_step (bl1 GE437) hb)
                   (try clear hb)
                   (try clear hb2)
                   (try clear hk)
                   (try clear hi)
                   refine hK.out _ _ ⟨bc BK437 0, bc BK437 1, bc BK437 2, bc BK437 3, (cw hw439_0), (cw hw439_1), (cw hw439_2), (cw hw439_3)⟩ (fun hHeld => ?_)
                   clear hK K
                   refine nm ?_
                   refine pu 2 (some 14) (bitsA 18 7) ?_
                   refine pu 3 (some 15) (bitsA 18 15) ?_
                   refine pu 4 (some 16) (bitsA 18 31) ?_
                   refine pu 5 (some 17) (bitsA 18 63) ?_
                   refine pu 6 (some 18) (bitsA 18 127) ?_
                   refine pu 7 (some 19) (bitsA 18 255) ?_
                   refine pu 8 (some 20) (bitsA 18 511) ?_
                   refine pu 9 (some 21) (bitsA 18 1023) ?_
                   refine pu 10 (some 22) (bitsA 18 2047) ?_
                   refine pu 11 (some 23) (bitsA 18 4095) ?_
                   refine tk 12 (some 24) (bitsA 18 8191) hHeld ?_ (hy := Or.inl ⟨by rfl, by rintro w' ⟨s0, s1, s2, s3, s4, s5, s6, s7⟩; go_simp; with_reducible rfl⟩)
                   refine pu 13 (some 25) (bitsA 18 16383) ?_
                   refine tk 14 (some 26) (bitsA 18 32767) hHeld ?_ (hy := Or.inl ⟨by rfl, by rintro w' ⟨s0, s1, s2, s3, s4, s5, s6, s7⟩; go_simp; with_reducible rfl⟩)
                   refine pu 15 (some 27) (bitsA 18 65535) ?_
                   refine pu 16 (some 28) (bitsA 18 131071) ?_
                   refine pu 17 (some 29) (bitsA 18 262143) ?_
                   refine done_ (done_of HT_.out (by kernel_rfl)) ?_
                   try go_wp2
                   go_ret
                   exact ⟨by first | rfl | (simp [errW_none, errW_some] <;> rfl) | (simp only [← hji8]; first | rfl | (simp [errW_none, errW_some] <;> rfl)) | (simp [*, errW_none, errW_some] <;> rfl), bl1 GE437⟩
               · rw [if_neg c10] at H
                 exact absurd H (by simp)
             · rw [if_neg c9] at H
               exact absurd H (by simp)
           · rw [if_neg c7] at H
             have c7b0 : decide (0 < x7_1) = false := decide_eq_false c7
             clear c7
             have H' := Aside0.mk H
             clear H
             have p436 : 0 ≤ (x7_1 : Int) := of_decide_eq_true am
             have q436 : x7_1 < (l0.length : Int) := of_decide_eq_true am
             obtain ⟨ad436, e436, hx436_0, hx436_1, hx436_2, hx436_3⟩ := at_T147 HR0.out x7_1 p436 q436
             cases e436
             replace hx436_0 := cw hx436_0
             replace hx436_1 := cw hx436_1
             replace hx436_2 := cw hx436_2
             replace hx436_3 := cw hx436_3
             replace p436 := eq_true p436
             replace q436 := eq_true q436
             try go_wp2_with (first | ((with_reducible refine gate_dst (N := 4) rfl ?_); refine bx 4 #[.string (⟨#[]⟩ : ByteArray), .int .i64 0, .int .i64 0, .bool false] 147 ?_; intro gb437 hg w22 hbox hb; have BK437 := ak hbox; have GW437 := gs hg bl; have GE437 := gs hg bl; replace HB := ak (below_step bl hb); clear hb hbox hg; obtain ⟨hcz23_0, hcz23_1, hcz23_2, hcz23_3, hfz23_0, hfz23_1, hfz23_2, hfz23_3⟩ := cz4 BK437))
             have n0_ : Aside0 (((((w22.setCell ⟨gb437, 0, none⟩ (.string ((rd_T147 l0 x7_1).f0))).setCell ⟨gb437, 1, none⟩ (.int .i64 ((rd_T147 l0 x7_1).f1))).setCell ⟨gb437, 2, none⟩ (.int .i64 ((rd_T147 l0 x7_1).f2))).setCell ⟨gb437, 3, none⟩ (.bool ((rd_T147 l0 x7_1).f3))).heap[gb437]? = some (.cells #[.string ((rd_T147 l0 x7_1).f0), .int .i64 ((rd_T147 l0 x7_1).f1), .int .i64 ((rd_T147 l0 x7_1).f2), .bool ((rd_T147 l0 x7_1).f3)] 147 (0, 0))) := ⟨by (with_reducible repeat (first | refine blk_drewN ?_ _ | refine blk_drew ?_ | refine blk_alloc ?_ _)); refine blk_put (cs := #[.string ((rd_T147 l0 x7_1).f0), .int .i64 ((rd_T147 l0 x7_1).f1), .int .i64 ((rd_T147 l0 x7_1).f2), .bool false]) ?_ 3 _ rfl; (with_reducible repeat (first | refine blk_drewN ?_ _ | refine blk_drew ?_ | refine blk_alloc ?_ _)); refine blk_put (cs := #[.string ((rd_T147 l0 x7_1).f0), .int .i64 ((rd_T147 l0 x7_1).f1), .int .i64 0, .bool false]) ?_ 2 _ rfl; (with_reducible repeat (first | refine blk_drewN ?_ _ | refine blk_drew ?_ | refine blk_alloc ?_ _)); refine blk_put (cs := #[.string ((rd_T147 l0 x7_1).f0), .int .i64 0, .int .i64 0, .bool false]) ?_ 1 _ rfl; (with_reducible repeat (first | refine blk_drewN ?_ _ | refine blk_drew ?_ | refine blk_alloc ?_ _)); refine blk_put (cs := #[.string (⟨#[]⟩ : ByteArray), .int .i64 0, .int .i64 0, .bool false]) ?_ 0 _ rfl; (with_reducible repeat (first | refine blk_drewN ?_ _ | refine blk_drew ?_ | refine blk_alloc ?_ _)); exact BK437.out⟩
             have n1_ : Aside0 (Below w.heap.size w ((((w22.setCell ⟨gb437, 0, none⟩ (.string ((rd_T147 l0 x7_1).f0))).setCell ⟨gb437, 1, none⟩ (.int .i64 ((rd_T147 l0 x7_1).f1))).setCell ⟨gb437, 2, none⟩ (.int .i64 ((rd_T147 l0 x7_1).f2))).setCell ⟨gb437, 3, none⟩ (.bool ((rd_T147 l0 x7_1).f3)))) := ⟨bl1 GE437⟩
             (try clear BK437)
             (try clear HB)
             generalize ((((w22.setCell ⟨gb437, 0, none⟩ (.string ((rd_T147 l0 x7_1).f0))).setCell ⟨gb437, 1, none⟩ (.int .i64 ((rd_T147 l0 x7_1).f1))).setCell ⟨gb437, 2, none⟩ (.int .i64 ((rd_T147 l0 x7_1).f2))).setCell ⟨gb437, 3, none⟩ (.bool ((rd_T147 l0 x7_1).f3))) = w24 at n0_ n1_ ⊢
             have BK437 := n0_
             have HB := n1_
             clear n0_ n1_
             replace BK437 := ak (blk_drew BK437.out)
             replace HB := ak (below_drew1 HB.out)
             refine start_ (n := 18) (S := fun w' => w'.cell? ⟨gb437, 0, none⟩ = some (.string ((rd_T147 l0 x7_1).f0)) ∧ w'.cell? ⟨gb437, 1, none⟩ = some (.int .i64 ((rd_T147 l0 x7_1).f1)) ∧ w'.cell? ⟨gb437, 2, none⟩ = some (.int .i64 ((rd_T147 l0 x7_1).f2)) ∧ w'.cell? ⟨gb437, 3, none⟩ = some (.bool ((rd_T147 l0 x7_1).f3))) (ds := []) (bitsA 18 0) (by kernel_rfl) rfl rfl ⟨bc BK437 0, bc BK437 1, bc BK437 2, bc BK437 3⟩ (fun hHeld => ?_); refine with_tabW impl_PodsOk.tab4 impl_PodsOk.bits4 (fun HT_ HW_ => ?_)
             generalize w24.drew = w25 at BK437 HB hHeld ⊢
             refine tk 0 (some 12) (bitsA 18 1) hHeld ?_ (hy := Or.inl ⟨by rfl, by rintro w' ⟨s0, s1, s2, s3⟩; go_simp; with_reducible rfl⟩)
             refine one_ (i := 1) (N := some 13) (bitsA 18 3) rfl rfl (one_of HT_.out (by kernel_rfl)) (by decide) (fun K hK => ?_)
             refine goes_ Try.func139 (by kernel_rfl) rfl #[.agg #[.string ((rd_T147 l0 x7_1).f0), .int .i64 ((rd_T147 l0 x7_1).f1), .int .i64 ((rd_T147 l0 x7_1).f2), .bool ((rd_T147 l0 x7_1).f3)]] (by rfl) rfl rfl mt ?_
             with_reducible refine (impl_PodOk.calls k1 ((rd_T147 l0 x7_1).f0) ((rd_T147 l0 x7_1).f1) ((rd_T147 l0 x7_1).f2) ((rd_T147 l0 x7_1).f3) true _ A5.out).mono ?_
             rintro e w26 ⟨rfl, hb⟩
             refine ⟨_, rfl, ?_⟩
             replace BK437 := bb BK437 hb
             replace HB := ak (below_step (bl1 GE437) hb)
             (try clear hb)
             (try clear hb2)
             (try clear hk)
             (try clear hi)
             refine hK.out _ _ ⟨bc BK437 0, bc BK437 1, bc BK437 2, bc BK437 3⟩ (fun hHeld => ?_)
             clear hK K
             refine nm ?_
             refine pu 2 (some 14) (bitsA 18 7) ?_
             refine pu 3 (some 15) (bitsA 18 15) ?_
             refine pu 4 (some 16) (bitsA 18 31) ?_
             refine pu 5 (some 17) (bitsA 18 63) ?_
             refine pu 6 (some 18) (bitsA 18 127) ?_
             refine pure_ (i := 7) (N := some 19) (v := undef) (a' := ?_) (bitsA 18 255) rfl rfl (any_of HT_.out (by kernel_rfl)) (fun _ _ _ h => h) (Or.inr ⟨by rfl, rfl⟩) ?_ ?_; rotate_left; (· (simp only [Act.put, List.setIfInBounds_toArray, List.set_cons_zero, List.set_cons_succ, i64_w, i32_w]; rfl))
             refine pure_ (i := 8) (N := some 20) (v := undef) (a' := ?_) (bitsA 18 511) rfl rfl (any_of HT_.out (by kernel_rfl)) (fun _ _ _ h => h) (Or.inr ⟨by rfl, rfl⟩) ?_ ?_; rotate_left; (· (simp only [Act.put, List.setIfInBounds_toArray, List.set_cons_zero, List.set_cons_succ, i64_w, i32_w]; rfl))
             refine pure_ (i := 9) (N := some 21) (v := undef) (a' := ?_) (bitsA 18 1023) rfl rfl (any_of HT_.out (by kernel_rfl)) (fun _ _ _ h => h) (Or.inr ⟨by rfl, rfl⟩) ?_ ?_; rotate_left; (· (simp only [Act.put, List.setIfInBounds_toArray, List.set_cons_zero, List.set_cons_succ, i64_w, i32_w]; rfl))
             refine pure_ (i := 10) (N := some 22) (v := undef) (a' := ?_) (bitsA 18 2047) rfl rfl (any_of HT_.out (by kernel_rfl)) (fun _ _ _ h => h) (Or.inr ⟨by rfl, rfl⟩) ?_ ?_; rotate_left; (· (simp only [Act.put, List.setIfInBounds_toArray, List.set_cons_zero, List.set_cons_succ, i64_w, i32_w]; rfl))
             refine pure_ (i := 11) (N := some 23) (v := undef) (a' := ?_) (bitsA 18 4095) rfl rfl (any_of HT_.out (by kernel_rfl)) (fun _ _ _ h => h) (Or.inr ⟨by rfl, rfl⟩) ?_ ?_; rotate_left; (· (simp only [Act.put, List.setIfInBounds_toArray, List.set_cons_zero, List.set_cons_succ, i64_w, i32_w]; rfl))
             refine pure_ (i := 12) (N := some 24) (v := undef) (a' := ?_) (bitsA 18 8191) rfl rfl (any_of HT_.out (by kernel_rfl)) (fun _ _ _ h => h) (Or.inr ⟨by rfl, rfl⟩) ?_ ?_; rotate_left; (· (simp only [Act.put, List.setIfInBounds_toArray, List.set_cons_zero, List.set_cons_succ, i64_w, i32_w]; rfl))
             refine pure_ (i := 13) (N := some 25) (v := undef) (a' := ?_) (bitsA 18 16383) rfl rfl (any_of HT_.out (by kernel_rfl)) (fun _ _ _ h => h) (Or.inr ⟨by rfl, rfl⟩) ?_ ?_; rotate_left; (· (simp only [Act.put, List.setIfInBounds_toArray, List.set_cons_zero, List.set_cons_succ, i64_w, i32_w]; rfl))
             refine pure_ (i := 14) (N := some 26) (v := undef) (a' := ?_) (bitsA 18 32767) rfl rfl (any_of HT_.out (by kernel_rfl)) (fun _ _ _ h => h) (Or.inr ⟨by rfl, rfl⟩) ?_ ?_; rotate_left; (· (simp only [Act.put, List.setIfInBounds_toArray, List.set_cons_zero, List.set_cons_succ, i64_w, i32_w]; rfl))
             refine pure_ (i := 15) (N := some 27) (v := undef) (a' := ?_) (bitsA 18 65535) rfl rfl (any_of HT_.out (by kernel_rfl)) (fun _ _ _ h => h) (Or.inr ⟨by rfl, rfl⟩) ?_ ?_; rotate_left; (· (simp only [Act.put, List.setIfInBounds_toArray, List.set_cons_zero, List.set_cons_succ, i64_w, i32_w]; rfl))
             refine pu 16 (some 28) (bitsA 18 131071) ?_
             refine pu 17 (some 29) (bitsA 18 262143) ?_
             refine done_ (done_of HT_.out (by kernel_rfl)) ?_
             try go_wp2
             go_roundg k1
             case measure => have := HK1.out; omega
             case rel => exact ⟨(wrap64 (x7_1 + 1)), es, H', ⟨kp⟩, ⟨bl1 GE437⟩⟩
         · replace c6 := Bool.eq_false_iff.mpr c6
           subst c6
           replace H := iF H
           obtain rfl := Option.some.inj H
           have p436 : 0 ≤ (x7_1 : Int) := of_decide_eq_true am
           have q436 : x7_1 < (l0.length : Int) := of_decide_eq_true am
           obtain ⟨ad436, e436, hx436_0, hx436_1, hx436_2, hx436_3⟩ := at_T147 HR0.out x7_1 p436 q436
           cases e436
           replace hx436_0 := cw hx436_0
           replace hx436_1 := cw hx436_1
           replace hx436_2 := cw hx436_2
           replace hx436_3 := cw hx436_3
           replace p436 := eq_true p436
           replace q436 := eq_true q436
           try go_wp2_with (first | ((with_reducible refine gate_dst (N := 4) rfl ?_); refine bx 4 #[.string (⟨#[]⟩ : ByteArray), .int .i64 0, .int .i64 0, .bool false] 147 ?_; intro gb437 hg w27 hbox hb; have BK437 := ak hbox; have GW437 := gs hg bl; have GE437 := gs hg bl; replace HB := ak (below_step bl hb); clear hb hbox hg; obtain ⟨hcz28_0, hcz28_1, hcz28_2, hcz28_3, hfz28_0, hfz28_1, hfz28_2, hfz28_3⟩ := cz4 BK437))
           have n0_ : Aside0 (((((w27.setCell ⟨gb437, 0, none⟩ (.string ((rd_T147 l0 x7_1).f0))).setCell ⟨gb437, 1, none⟩ (.int .i64 ((rd_T147 l0 x7_1).f1))).setCell ⟨gb437, 2, none⟩ (.int .i64 ((rd_T147 l0 x7_1).f2))).setCell ⟨gb437, 3, none⟩ (.bool ((rd_T147 l0 x7_1).f3))).heap[gb437]? = some (.cells #[.string ((rd_T147 l0 x7_1).f0), .int .i64 ((rd_T147 l0 x7_1).f1), .int .i64 ((rd_T147 l0 x7_1).f2), .bool ((rd_T147 l0 x7_1).f3)] 147 (0, 0))) := ⟨by (with_reducible repeat (first | refine blk_drewN ?_ _ | refine blk_drew ?_ | refine blk_alloc ?_ _)); refine blk_put (cs := #[.string ((rd_T147 l0 x7_1).f0), .int .i64 ((rd_T147 l0 x7_1).f1), .int .i64 ((rd_T147 l0 x7_1).f2), .bool false]) ?_ 3 _ rfl; (with_reducible repeat (first | refine blk_drewN ?_ _ | refine blk_drew ?_ | refine blk_alloc ?_ _)); refine blk_put (cs := #[.string ((rd_T147 l0 x7_1).f0), .int .i64 ((rd_T147 l0 x7_1).f1), .int .i64 0, .bool false]) ?_ 2 _ rfl; (with_reducible repeat (first | refine blk_drewN ?_ _ | refine blk_drew ?_ | refine blk_alloc ?_ _)); refine blk_put (cs := #[.string ((rd_T147 l0 x7_1).f0), .int .i64 0, .int .i64 0, .bool false]) ?_ 1 _ rfl; (with_reducible repeat (first | refine blk_drewN ?_ _ | refine blk_drew ?_ | refine blk_alloc ?_ _)); refine blk_put (cs := #[.string (⟨#[]⟩ : ByteArray), .int .i64 0, .int .i64 0, .bool false]) ?_ 0 _ rfl; (with_reducible repeat (first | refine blk_drewN ?_ _ | refine blk_drew ?_ | refine blk_alloc ?_ _)); exact BK437.out⟩
           have n1_ : Aside0 (Below w.heap.size w ((((w27.setCell ⟨gb437, 0, none⟩ (.string ((rd_T147 l0 x7_1).f0))).setCell ⟨gb437, 1, none⟩ (.int .i64 ((rd_T147 l0 x7_1).f1))).setCell ⟨gb437, 2, none⟩ (.int .i64 ((rd_T147 l0 x7_1).f2))).setCell ⟨gb437, 3, none⟩ (.bool ((rd_T147 l0 x7_1).f3)))) := ⟨bl1 GE437⟩
           (try clear BK437)
           (try clear HB)
           generalize ((((w27.setCell ⟨gb437, 0, none⟩ (.string ((rd_T147 l0 x7_1).f0))).setCell ⟨gb437, 1, none⟩ (.int .i64 ((rd_T147 l0 x7_1).f1))).setCell ⟨gb437, 2, none⟩ (.int .i64 ((rd_T147 l0 x7_1).f2))).setCell ⟨gb437, 3, none⟩ (.bool ((rd_T147 l0 x7_1).f3))) = w29 at n0_ n1_ ⊢
           have BK437 := n0_
           have HB := n1_
           clear n0_ n1_
           replace BK437 := ak (blk_drew BK437.out)
           replace HB := ak (below_drew1 HB.out)
           refine start_ (n := 18) (S := fun w' => w'.cell? ⟨gb437, 0, none⟩ = some (.string ((rd_T147 l0 x7_1).f0)) ∧ w'.cell? ⟨gb437, 1, none⟩ = some (.int .i64 ((rd_T147 l0 x7_1).f1)) ∧ w'.cell? ⟨gb437, 2, none⟩ = some (.int .i64 ((rd_T147 l0 x7_1).f2)) ∧ w'.cell? ⟨gb437, 3, none⟩ = some (.bool ((rd_T147 l0 x7_1).f3))) (ds := []) (bitsA 18 0) (by kernel_rfl) rfl rfl ⟨bc BK437 0, bc BK437 1, bc BK437 2, bc BK437 3⟩ (fun hHeld => ?_); refine with_tabW impl_PodsOk.tab4 impl_PodsOk.bits4 (fun HT_ HW_ => ?_)
           generalize w29.drew = w30 at BK437 HB hHeld ⊢
           refine tk 0 (some 12) (bitsA 18 1) hHeld ?_ (hy := Or.inl ⟨by rfl, by rintro w' ⟨s0, s1, s2, s3⟩; go_simp; with_reducible rfl⟩)
           refine one_ (i := 1) (N := some 13) (bitsA 18 3) rfl rfl (one_of HT_.out (by kernel_rfl)) (by decide) (fun K hK => ?_)
           refine goes_ Try.func139 (by kernel_rfl) rfl #[.agg #[.string ((rd_T147 l0 x7_1).f0), .int .i64 ((rd_T147 l0 x7_1).f1), .int .i64 ((rd_T147 l0 x7_1).f2), .bool ((rd_T147 l0 x7_1).f3)]] (by rfl) rfl rfl mt ?_
           with_reducible refine (impl_PodOk.calls k1 ((rd_T147 l0 x7_1).f0) ((rd_T147 l0 x7_1).f1) ((rd_T147 l0 x7_1).f2) ((rd_T147 l0 x7_1).f3) false _ A5.out).mono ?_
           rintro e w31 ⟨rfl, hb⟩
           refine ⟨_, rfl, ?_⟩
           replace BK437 := bb BK437 hb
           replace HB := ak (below_step (bl1 GE437) hb)
           (try clear hb)
           (try clear hb2)
           (try clear hk)
           (try clear hi)
           refine hK.out _ _ ⟨bc BK437 0, bc BK437 1, bc BK437 2, bc BK437 3⟩ (fun hHeld => ?_)
           clear hK K
           refine nm ?_
           refine pu 2 (some 14) (bitsA 18 7) ?_
           refine pu 3 (some 15) (bitsA 18 15) ?_
           refine pure_ (i := 4) (N := some 16) (v := undef) (a' := ?_) (bitsA 18 31) rfl rfl (any_of HT_.out (by kernel_rfl)) (fun _ _ _ h => h) (Or.inr ⟨by rfl, rfl⟩) ?_ ?_; rotate_left; (· (simp only [Act.put, List.setIfInBounds_toArray, List.set_cons_zero, List.set_cons_succ, i64_w, i32_w]; rfl))
           refine pure_ (i := 5) (N := some 17) (v := undef) (a' := ?_) (bitsA 18 63) rfl rfl (any_of HT_.out (by kernel_rfl)) (fun _ _ _ h => h) (Or.inr ⟨by rfl, rfl⟩) ?_ ?_; rotate_left; (· (simp only [Act.put, List.setIfInBounds_toArray, List.set_cons_zero, List.set_cons_succ, i64_w, i32_w]; rfl))
           refine pure_ (i := 6) (N := some 18) (v := undef) (a' := ?_) (bitsA 18 127) rfl rfl (any_of HT_.out (by kernel_rfl)) (fun _ _ _ h => h) (Or.inr ⟨by rfl, rfl⟩) ?_ ?_; rotate_left; (· (simp only [Act.put, List.setIfInBounds_toArray, List.set_cons_zero, List.set_cons_succ, i64_w, i32_w]; rfl))
           refine pure_ (i := 7) (N := some 19) (v := undef) (a' := ?_) (bitsA 18 255) rfl rfl (any_of HT_.out (by kernel_rfl)) (fun _ _ _ h => h) (Or.inr ⟨by rfl, rfl⟩) ?_ ?_; rotate_left; (· (simp only [Act.put, List.setIfInBounds_toArray, List.set_cons_zero, List.set_cons_succ, i64_w, i32_w]; rfl))
           refine pure_ (i := 8) (N := some 20) (v := undef) (a' := ?_) (bitsA 18 511) rfl rfl (any_of HT_.out (by kernel_rfl)) (fun _ _ _ h => h) (Or.inr ⟨by rfl, rfl⟩) ?_ ?_; rotate_left; (· (simp only [Act.put, List.setIfInBounds_toArray, List.set_cons_zero, List.set_cons_succ, i64_w, i32_w]; rfl))
           refine pure_ (i := 9) (N := some 21) (v := undef) (a' := ?_) (bitsA 18 1023) rfl rfl (any_of HT_.out (by kernel_rfl)) (fun _ _ _ h => h) (Or.inr ⟨by rfl, rfl⟩) ?_ ?_; rotate_left; (· (simp only [Act.put, List.setIfInBounds_toArray, List.set_cons_zero, List.set_cons_succ, i64_w, i32_w]; rfl))
           refine pure_ (i := 10) (N := some 22) (v := undef) (a' := ?_) (bitsA 18 2047) rfl rfl (any_of HT_.out (by kernel_rfl)) (fun _ _ _ h => h) (Or.inr ⟨by rfl, rfl⟩) ?_ ?_; rotate_left; (· (simp only [Act.put, List.setIfInBounds_toArray, List.set_cons_zero, List.set_cons_succ, i64_w, i32_w]; rfl))
           refine pure_ (i := 11) (N := some 23) (v := undef) (a' := ?_) (bitsA 18 4095) rfl rfl (any_of HT_.out (by kernel_rfl)) (fun _ _ _ h => h) (Or.inr ⟨by rfl, rfl⟩) ?_ ?_; rotate_left; (· (simp only [Act.put, List.setIfInBounds_toArray, List.set_cons_zero, List.set_cons_succ, i64_w, i32_w]; rfl))
           refine pure_ (i := 12) (N := some 24) (v := undef) (a' := ?_) (bitsA 18 8191) rfl rfl (any_of HT_.out (by kernel_rfl)) (fun _ _ _ h => h) (Or.inr ⟨by rfl, rfl⟩) ?_ ?_; rotate_left; (· (simp only [Act.put, List.setIfInBounds_toArray, List.set_cons_zero, List.set_cons_succ, i64_w, i32_w]; rfl))
           refine pure_ (i := 13) (N := some 25) (v := undef) (a' := ?_) (bitsA 18 16383) rfl rfl (any_of HT_.out (by kernel_rfl)) (fun _ _ _ h => h) (Or.inr ⟨by rfl, rfl⟩) ?_ ?_; rotate_left; (· (simp only [Act.put, List.setIfInBounds_toArray, List.set_cons_zero, List.set_cons_succ, i64_w, i32_w]; rfl))
           refine pure_ (i := 14) (N := some 26) (v := undef) (a' := ?_) (bitsA 18 32767) rfl rfl (any_of HT_.out (by kernel_rfl)) (fun _ _ _ h => h) (Or.inr ⟨by rfl, rfl⟩) ?_ ?_; rotate_left; (· (simp only [Act.put, List.setIfInBounds_toArray, List.set_cons_zero, List.set_cons_succ, i64_w, i32_w]; rfl))
           refine pure_ (i := 15) (N := some 27) (v := undef) (a' := ?_) (bitsA 18 65535) rfl rfl (any_of HT_.out (by kernel_rfl)) (fun _ _ _ h => h) (Or.inr ⟨by rfl, rfl⟩) ?_ ?_; rotate_left; (· (simp only [Act.put, List.setIfInBounds_toArray, List.set_cons_zero, List.set_cons_succ, i64_w, i32_w]; rfl))
           refine pure_ (i := 16) (N := some 28) (v := undef) (a' := ?_) (bitsA 18 131071) rfl rfl (any_of HT_.out (by kernel_rfl)) (fun _ _ _ h => h) (Or.inr ⟨by rfl, rfl⟩) ?_ ?_; rotate_left; (· (simp only [Act.put, List.setIfInBounds_toArray, List.set_cons_zero, List.set_cons_succ, i64_w, i32_w]; rfl))
           refine pu 17 (some 29) (bitsA 18 262143) ?_
           refine done_ (done_of HT_.out (by kernel_rfl)) ?_
           try go_wp2
           go_ret
           exact ⟨ew, bl1 GE437⟩
       · rw [if_neg c4] at H
         exact absurd H (by simp)
     · rw [if_neg c3] at H
       exact absurd H (by simp)
   · rw [if_neg c2] at H
     have c2b0 : decide (x7_1 < (l0.length : Int)) = false := decide_eq_false c2
     clear c2
     obtain rfl := Option.some.inj H
     go_wp2
     go_ret
     exact ⟨ew, bl⟩

end Go.Proofs.Ytplekidnlofioaa.Q
namespace Go.Proofs.Ytplekidnlofioaa.Q
open Go.RowKit Go.Proofs.YtplekidnlofioaaW.PrintWords Go.Proofs.YtplekidnlofioaaW.PrintLast Go.Proofs.YtplekidnlofioaaW.PrintMore
attribute [local go_sem] max2_int min2_int max_two min_two max_three min_three max_four min_four   -- for this text's walks alone
set_option linter.unusedVariables false
set_option linter.unusedSimpArgs false

/-! ### impl_RulesOk: function 140 -/
def impl_RulesOk.f (a0_0 : Int) (a0_1 : Int) (a0_2 : Int) : Option (Bool) := (impl_in.f a0_0 0 1000).bind fun t441 => (if t441 = true then ((impl_in.f a0_1 0 1000).bind fun t442 => (if t442 = true then ((impl_in.f a0_2 0 1000).bind fun t443 => (some t443)) else (some false))) else (some false))
set_option maxHeartbeats 8000000 in
set_option maxRecDepth 100000 in
theorem impl_RulesOk.calls (a0_0 : Int) (a0_1 : Int) (a0_2 : Int) (r : Bool) (w : World) (h : impl_RulesOk.f a0_0 a0_1 a0_2 = some r) :
 Calls Try.prog 140 #[.agg #[.int .i64 a0_0, .int .i64 a0_1, .int .i64 a0_2]] w fun e w' => e = .returned (.bool r) ∧ Below w.heap.size w w' := by
 have hu61 := Try.underlying61
 have HB := Aside0.mk (Below.refl w.heap.size w)
 have H : ((impl_in.f a0_0 0 1000).bind fun t441 => (if t441 = true then ((impl_in.f a0_1 0 1000).bind fun t442 => (if t442 = true then ((impl_in.f a0_2 0 1000).bind fun t443 => (some t443)) else (some false))) else (some false))) = some r := h
 clear h
 obtain ⟨t441, A20, H⟩ := bo H
 have A2 := Aside0.mk A20
 clear A20
 by_cases c3 : t441 = true
 · subst c3
   replace H := iT H
   obtain ⟨t442, A40, H⟩ := bo H
   have A4 := Aside0.mk A40
   clear A40
   by_cases c5 : t442 = true
   · subst c5
     replace H := iT H
     obtain ⟨t443, A60, H⟩ := bo H
     have A6 := Aside0.mk A60
     clear A60
     obtain rfl := Option.some.inj H
     go_enter Try.func140, Try.ntmps140
     go_wp2_with (first | ((with_reducible refine gate_dst (N := 1) rfl ?_); refine bx 1 #[.int .i64 a0_0, .int .i64 a0_1, .int .i64 a0_2] 61 ?_; intro gb440 hg w7 hbox hb; have BK440 := ak hbox; have GW440 := gs hg bl; have GE440 := gs hg bl; replace HB := ak (below_step bl hb); clear hb hbox hg; obtain ⟨hcz8_0, hcz8_1, hcz8_2, hfz8_0, hfz8_1, hfz8_2⟩ := cz3 BK440) | ((with_reducible refine gate_callee (f := 124) rfl ?_); refine gl (some 5) Try.func124 #[.int .i64 a0_0, .int .i64 0, .int .i64 1000] ?_; (with_reducible refine (impl_in.calls a0_0 0 1000 true _ A2.out).mono ?_); rintro e w' ⟨rfl, ⟨nd, rfl⟩⟩; refine ⟨_, rfl, ?_⟩) | (go_at_call 124; (with_reducible refine (impl_in.calls a0_1 0 1000 true _ A4.out).mono ?_); rintro e w' ⟨rfl, ⟨nd, rfl⟩⟩) | (go_at_call 124; (with_reducible refine (impl_in.calls a0_2 0 1000 t443 _ A6.out).mono ?_); rintro e w' ⟨rfl, ⟨nd, rfl⟩⟩))
     go_ret
     exact ⟨ew, bl1 GE440⟩
   · replace c5 := Bool.eq_false_iff.mpr c5
     subst c5
     replace H := iF H
     obtain rfl := Option.some.inj H
     go_enter Try.func140, Try.ntmps140
     go_wp2_with (first | ((with_reducible refine gate_dst (N := 1) rfl ?_); refine bx 1 #[.int .i64 a0_0, .int .i64 a0_1, .int .i64 a0_2] 61 ?_; intro gb440 hg w9 hbox hb; have BK440 := ak hbox; have GW440 := gs hg bl; have GE440 := gs hg bl; replace HB := ak (below_step bl hb); clear hb hbox hg; obtain ⟨hcz10_0, hcz10_1, hcz10_2, hfz10_0, hfz10_1, hfz10_2⟩ := cz3 BK440) | ((with_reducible refine gate_callee (f := 124) rfl ?_); refine gl (some 5) Try.func124 #[.int .i64 a0_0, .int .i64 0, .int .i64 1000] ?_; (with_reducible refine (impl_in.calls a0_0 0 1000 true _ A2.out).mono ?_); rintro e w' ⟨rfl, ⟨nd, rfl⟩⟩; refine ⟨_, rfl, ?_⟩) | (go_at_call 124; (with_reducible refine (impl_in.calls a0_1 0 1000 false _ A4.out).mono ?_); rintro e w' ⟨rfl, ⟨nd, rfl⟩⟩))
     go_ret
     exact ⟨ew, bl1 GE440⟩
 · replace c3 := Bool.eq_false_iff.mpr c3
   subst c3
   replace H := iF H
   obtain rfl := Option.some.inj H
   go_enter Try.func140, Try.ntmps140
   go_wp2_with (first | ((with_reducible refine gate_dst (N := 1) rfl ?_); refine bx 1 #[.int .i64 a0_0, .int .i64 a0_1, .int .i64 a0_2] 61 ?_; intro gb440 hg w11 hbox hb; have BK440 := ak hbox; have GW440 := gs hg bl; have GE440 := gs hg bl; replace HB := ak (below_step bl hb); clear hb hbox hg; obtain ⟨hcz12_0, hcz12_1, hcz12_2, hfz12_0, hfz12_1, hfz12_2⟩ := cz3 BK440) | ((with_reducible refine gate_callee (f := 124) rfl ?_); refine gl (some 5) Try.func124 #[.int .i64 a0_0, .int .i64 0, .int .i64 1000] ?_; (with_reducible refine (impl_in.calls a0_0 0 1000 false _ A2.out).mono ?_); rintro e w' ⟨rfl, ⟨nd, rfl⟩⟩; refine ⟨_, rfl, ?_⟩))
   go_ret
   exact ⟨ew, bl1 GE440⟩

end Go.Proofs.Ytplekidnlofioaa.Q
namespace Go.Proofs.Ytplekidnlofioaa.Q
open Go.RowKit Go.Proofs.YtplekidnlofioaaW.PrintWords Go.Proofs.YtplekidnlofioaaW.PrintLast Go.Proofs.YtplekidnlofioaaW.PrintMore
attribute [local go_sem] max2_int min2_int max_two min_two max_three min_three max_four min_four   -- for this text's walks alone
set_option linter.unusedVariables false
set_option linter.unusedSimpArgs false

/-! ### impl_LatestOf: function 20 -/
def impl_LatestOf.f (k : Nat) (l0 : List (S81)) (a1 : ByteArray) (a2 : ByteArray) : Option (Int × Int × Bool) := (impl_SeriesOf.f k l0 a1 a2).bind fun bt202 => (if bt202.2 = true then (if 0 ≤ (wrap64 ((bt202.1.length : Int) - 1)) then (if (wrap64 ((bt202.1.length : Int) - 1)) < (bt202.1.length : Int) then (some ((rd_T37 bt202.1 (wrap64 ((bt202.1.length : Int) - 1))).f0, (rd_T37 bt202.1 (wrap64 ((bt202.1.length : Int) - 1))).f1, true)) else (none)) else (none)) else (some (0, 0, false)))
theorem impl_LatestOf.mono : ∀ a0 a1 a2 k, LeO (impl_LatestOf.f k a0 a1 a2) (impl_LatestOf.f (k + 1) a0 a1 a2) := by
 intro a0 a1 a2 k
 unfold impl_LatestOf.f
 repeat' first
  | (with_reducible exact impl_SeriesOf.mono _ _ _ _)
  | (with_reducible exact LeO.refl _)
  | (with_reducible exact LeO.none _)
  | (with_reducible refine LeO.ite ?_ ?_)
  | (with_reducible refine LeO.bind ?_ (fun _ => ?_))
  | exact impl_SeriesOf.mono _ _ _ _
  | exact LeO.none _
  | refine LeO.ite ?_ ?_
  | refine LeO.bind ?_ (fun _ => ?_)
set_option maxHeartbeats 8000000 in
set_option maxRecDepth 100000 in
theorem impl_LatestOf.calls (k : Nat) (A0 : Option Addr) (c0 : Nat) (l0 : List (S81)) (a1 : ByteArray) (a2 : ByteArray) (r1 : Int) (r2 : Int) (r3 : Bool) (w : World) (hr0 : Kd.C k81 w A0 l0.length l0) (hc0 : l0.length ≤ c0) (h : impl_LatestOf.f k l0 a1 a2 = some (r1, r2, r3)) :
 Calls Try.prog 20 #[.slice A0 l0.length c0, .string a1, .string a2] w fun e w' => e = .returned (.tuple #[.agg #[.int .i64 r1, .int .i64 r2], .bool r3]) ∧ Below w.heap.size w w' := by
 have hu37 := Try.underlying37
 have HR0 := Aside0.mk hr0
 have HC0 := Aside0.mk hc0
 clear hr0 hc0
 have HB := Aside0.mk (Below.refl w.heap.size w)
 have H : ((impl_SeriesOf.f k l0 a1 a2).bind fun bt202 => (if bt202.2 = true then (if 0 ≤ (wrap64 ((bt202.1.length : Int) - 1)) then (if (wrap64 ((bt202.1.length : Int) - 1)) < (bt202.1.length : Int) then (some ((rd_T37 bt202.1 (wrap64 ((bt202.1.length : Int) - 1))).f0, (rd_T37 bt202.1 (wrap64 ((bt202.1.length : Int) - 1))).f1, true)) else (none)) else (none)) else (some (0, 0, false)))) = some (r1, r2, r3) := h
 clear h
 replace H := Option.bind_eq_some_iff.mp H
 obtain ⟨⟨t202, t203⟩, A40, H⟩ := H
 replace H : (if t203 = true then (if 0 ≤ (wrap64 ((t202.length : Int) - 1)) then (if (wrap64 ((t202.length : Int) - 1)) < (t202.length : Int) then (some ((rd_T37 t202 (wrap64 ((t202.length : Int) - 1))).f0, (rd_T37 t202 (wrap64 ((t202.length : Int) - 1))).f1, true)) else (none)) else (none)) else (some (0, 0, false))) = some (r1, r2, r3) := H
 have A4 := Aside0.mk A40
 clear A40
 by_cases c5 : t203 = true
 · subst c5
   replace H := iT H
   obtain ⟨ji6, hji6⟩ : ∃ j_ : Int, (wrap64 ((t202.length : Int) - 1)) = j_ := ⟨_, rfl⟩
   replace H : (if 0 ≤ (ji6) then (if (ji6) < (t202.length : Int) then (some ((rd_T37 t202 (ji6)).f0, (rd_T37 t202 (ji6)).f1, true)) else (none)) else (none)) = some (r1, r2, r3) := by first | (rw [hji6] at H; exact H) | (simp only [hji6] at H ⊢; exact H)
   (try rw [hji6] at A4)
   have hji6w : (IntKind.i64.wrap ((t202.length : Int) - 1)) = ji6 := (i64_w _).trans hji6
   by_cases c7 : 0 ≤ (ji6)
   · rw [if_pos c7] at H
     have c7b0 : decide (0 ≤ (ji6)) = true := decide_eq_true c7
     clear c7
     by_cases c8 : (ji6) < (t202.length : Int)
     · rw [if_pos c8] at H
       have c8b0 : decide ((ji6) < (t202.length : Int)) = true := decide_eq_true c8
       clear c8
       simp only [Option.some.injEq, Prod.mk.injEq] at H
       obtain ⟨rfl, rfl, rfl⟩ := H
       go_enter Try.func20, Try.ntmps20
       go_wp2_with (first | ((with_reducible refine gate_dst (N := 6) rfl ?_); refine bx 6 #[.int .i64 0, .int .i64 0] 37 ?_; intro gb201 hg w9 hbox hb; have BK201 := ak hbox; have GW201 := gs hg bl; have GE201 := gs hg bl; replace HB := ak (below_step bl hb); clear hb hbox hg) | ((with_reducible refine gate_callee (f := 15) rfl ?_); refine gl (some 14) Try.func15 #[.slice A0 l0.length c0, .string a1, .string a2] ?_; (with_reducible refine (impl_SeriesOf.calls k _ _ l0 a1 a2 t202 true _ ?side1 ?side2 A4.out).mono ?_); (case side1 => exact cb HR0); (case side2 => exact HC0.out); rintro e w10 ⟨v204, rfl, ho0, hb⟩; refine ⟨_, rfl, ?_⟩; have HO205 := ak (Kd.R_lower (Kd.R_newB ho0 (g := gb201) (o := .cells #[.int .i64 0, .int .i64 0] 37 (0, 0)) (bk BK201)) (below_size (bl1 GE201))); replace BK201 := bb BK201 hb; replace HB := ak (below_step (bl1 GE201) hb); (try clear hb); (try clear hb2); (try clear hk); (try clear hi); (try clear ho0); obtain ⟨Ao11, co11, eo11⟩ := Kd.R_slice HO205.out; subst eo11; have p206 : 0 ≤ ((ji6) : Int) := of_decide_eq_true am; have q206 : (ji6) < (t202.length : Int) := of_decide_eq_true am; obtain ⟨ad206, e206, hx206_0, hx206_1⟩ := at_T37 (Kd.R_reads' HO205.out).2.2 (ji6) p206 q206; cases e206; replace p206 := eq_true p206; replace q206 := eq_true q206; obtain ⟨hcz12_0, hcz12_1, hfz12_0, hfz12_1⟩ := cz2 BK201))
       refine bodyPost_ret (results_ct rfl _ _ gb201 37 #[.int .i64 ((rd_T37 t202 (ji6)).f0), .int .i64 ((rd_T37 t202 (ji6)).f1)] (0, 0) _ rfl (by (with_reducible repeat (first | refine blk_drewN ?_ _ | refine blk_drew ?_ | refine blk_alloc ?_ _)); refine blk_put (cs := #[.int .i64 ((rd_T37 t202 (ji6)).f0), .int .i64 0]) ?_ 1 _ rfl; (with_reducible repeat (first | refine blk_drewN ?_ _ | refine blk_drew ?_ | refine blk_alloc ?_ _)); refine blk_put (cs := #[.int .i64 0, .int .i64 0]) ?_ 0 _ rfl; (with_reducible repeat (first | refine blk_drewN ?_ _ | refine blk_drew ?_ | refine blk_alloc ?_ _)); exact BK201.out) Try.underlying37 rfl (by kernel_rfl)) rfl ?_
       exact ⟨by first | rfl | (simp [errW_none, errW_some] <;> rfl) | (simp only [← hji6]; first | rfl | (simp [errW_none, errW_some] <;> rfl)) | (simp [*, errW_none, errW_some] <;> rfl), bl1 GE201⟩
     · rw [if_neg c8] at H
       exact absurd H (by simp)
   · rw [if_neg c7] at H
     exact absurd H (by simp)
 · replace c5 := Bool.eq_false_iff.mpr c5
   subst c5
   replace H := iF H
   simp only [Option.some.injEq, Prod.mk.injEq] at H
   obtain ⟨rfl, rfl, rfl⟩ := H
   go_enter Try.func20, Try.ntmps20
   go_wp2_with (first | ((with_reducible refine gate_dst (N := 6) rfl ?_); refine bx 6 #[.int .i64 0, .int .i64 0] 37 ?_; intro gb201 hg w13 hbox hb; have BK201 := ak hbox; have GW201 := gs hg bl; have GE201 := gs hg bl; replace HB := ak (below_step bl hb); clear hb hbox hg) | ((with_reducible refine gate_callee (f := 15) rfl ?_); refine gl (some 14) Try.func15 #[.slice A0 l0.length c0, .string a1, .string a2] ?_; (with_reducible refine (impl_SeriesOf.calls k _ _ l0 a1 a2 t202 false _ ?side1 ?side2 A4.out).mono ?_); (case side1 => exact cb HR0); (case side2 => exact HC0.out); rintro e w14 ⟨v204, rfl, ho0, hb⟩; refine ⟨_, rfl, ?_⟩; have HO205 := ak (Kd.R_lower (Kd.R_newB ho0 (g := gb201) (o := .cells #[.int .i64 0, .int .i64 0] 37 (0, 0)) (bk BK201)) (below_size (bl1 GE201))); replace BK201 := bb BK201 hb; replace HB := ak (below_step (bl1 GE201) hb); (try clear hb); (try clear hb2); (try clear hk); (try clear hi); (try clear ho0); obtain ⟨hcz15_0, hcz15_1, hfz15_0, hfz15_1⟩ := cz2 BK201))
   refine bodyPost_ret (results_ct rfl _ _ gb201 37 #[.int .i64 0, .int .i64 0] (0, 0) _ rfl (by (with_reducible repeat (first | refine blk_drewN ?_ _ | refine blk_drew ?_ | refine blk_alloc ?_ _)); refine blk_put (cs := #[.int .i64 0, .int .i64 0]) ?_ 1 _ rfl; (with_reducible repeat (first | refine blk_drewN ?_ _ | refine blk_drew ?_ | refine blk_alloc ?_ _)); refine blk_put (cs := #[.int .i64 0, .int .i64 0]) ?_ 0 _ rfl; (with_reducible repeat (first | refine blk_drewN ?_ _ | refine blk_drew ?_ | refine blk_alloc ?_ _)); exact BK201.out) Try.underlying37 rfl (by kernel_rfl)) rfl ?_
   exact ⟨ew, bl1 GE201⟩

end Go.Proofs.Ytplekidnlofioaa.Q
namespace Go.Proofs.Ytplekidnlofioaa.Q
open Go.RowKit Go.Proofs.YtplekidnlofioaaW.PrintWords Go.Proofs.YtplekidnlofioaaW.PrintLast Go.Proofs.YtplekidnlofioaaW.PrintMore
attribute [local go_sem] max2_int min2_int max_two min_two max_three min_three max_four min_four   -- for this text's walks alone
set_option linter.unusedVariables false
set_option linter.unusedSimpArgs false

/-! ### impl_ClassOf: function 90 -/
mutual
def impl_ClassOf.j0 : Nat → List (S81) → ByteArray → Int → Bool → ByteArray → Int → Int → Bool → Int → Int → Int → Option (Int)
 | 0, _, _, _, _, _, _, _, _, _, _, _ => none
 | k + 1, x1, x2, x3, x30, x445000, x445001, x445002, x445003, x446000, x446001, x446002 => if x30 = true then (some (-1)) else ((impl_LatestOf.f k x1 x445000 x2).bind fun bt450 => (if x445002 = 0 then (if bt450.2.2 = true then (impl_ClassOf.j1 k x3 (decide ((wrap64 (bt450.1 + x446001)) < x3)) x445000 x445001 x445002 x445003 x446000 x446001 x446002) else (impl_ClassOf.j1 k x3 true x445000 x445001 x445002 x445003 x446000 x446001 x446002)) else (some 3)))
def impl_ClassOf.j1 : Nat → Int → Bool → ByteArray → Int → Int → Bool → Int → Int → Int → Option (Int)
 | 0, _, _, _, _, _, _, _, _, _ => none
 | k + 1, x3, x43, x445000, x445001, x445002, x445003, x446000, x446001, x446002 => if x43 = true then (some 2) else (if x445003 = true then (if (wrap64 (x445001 + x446000)) > x3 then (some 1) else (some 0)) else (some 1))
end
def impl_ClassOf.f (k : Nat) (a0_0 : ByteArray) (a0_1 : Int) (a0_2 : Int) (a0_3 : Bool) (l1 : List (S81)) (a2 : ByteArray) (a3 : Int) (a4_0 : Int) (a4_1 : Int) (a4_2 : Int) : Option (Int) := (impl_PodOk.f k a0_0 a0_1 a0_2 a0_3).bind fun t446 => (if t446 = true then ((impl_RulesOk.f a4_0 a4_1 a4_2).bind fun t447 => (if t447 = true then ((impl_isTick.f a3).bind fun t448 => (if t448 = true then ((impl_StoreOk.f k l1).bind fun t449 => (impl_ClassOf.j0 k l1 a2 a3 (!t449) a0_0 a0_1 a0_2 a0_3 a4_0 a4_1 a4_2)) else (impl_ClassOf.j0 k l1 a2 a3 true a0_0 a0_1 a0_2 a0_3 a4_0 a4_1 a4_2))) else (impl_ClassOf.j0 k l1 a2 a3 true a0_0 a0_1 a0_2 a0_3 a4_0 a4_1 a4_2))) else (impl_ClassOf.j0 k l1 a2 a3 true a0_0 a0_1 a0_2 a0_3 a4_0 a4_1 a4_2))
theorem impl_ClassOf.mono_l : ∀ k, (∀ y0 y1 y2 y3 y4 y5 y6 y7 y8 y9 y10, LeO (impl_ClassOf.j0 k y0 y1 y2 y3 y4 y5 y6 y7 y8 y9 y10) (impl_ClassOf.j0 (k + 1) y0 y1 y2 y3 y4 y5 y6 y7 y8 y9 y10)) ∧ (∀ y0 y1 y2 y3 y4 y5 y6 y7 y8, LeO (impl_ClassOf.j1 k y0 y1 y2 y3 y4 y5 y6 y7 y8) (impl_ClassOf.j1 (k + 1) y0 y1 y2 y3 y4 y5 y6 y7 y8))
 | 0 => ⟨fun _ _ _ _ _ _ _ _ _ _ _ r h => by simp [impl_ClassOf.j0] at h, fun _ _ _ _ _ _ _ _ _ r h => by simp [impl_ClassOf.j1] at h⟩
 | k + 1 => by
  obtain ⟨ih0, ih1⟩ := impl_ClassOf.mono_l k
  refine ⟨?_, ?_⟩
  · intro y0 y1 y2 y3 y4 y5 y6 y7 y8 y9 y10
    unfold impl_ClassOf.j0
    repeat' first
    | (with_reducible exact ih0 _ _ _ _ _ _ _ _ _ _ _)
    | (with_reducible exact ih1 _ _ _ _ _ _ _ _ _)
    | (with_reducible exact impl_LatestOf.mono _ _ _ _)
    | (with_reducible exact impl_PodOk.mono _ _ _ _ _)
    | (with_reducible exact impl_StoreOk.mono _ _)
    | (with_reducible exact LeO.refl _)
    | (with_reducible exact LeO.none _)
    | (with_reducible refine LeO.ite ?_ ?_)
    | (with_reducible refine LeO.bind ?_ (fun _ => ?_))
    | exact ih0 _ _ _ _ _ _ _ _ _ _ _
    | exact ih1 _ _ _ _ _ _ _ _ _
    | exact impl_LatestOf.mono _ _ _ _
    | exact impl_PodOk.mono _ _ _ _ _
    | exact impl_StoreOk.mono _ _
    | exact LeO.none _
    | refine LeO.ite ?_ ?_
    | refine LeO.bind ?_ (fun _ => ?_)
  · intro y0 y1 y2 y3 y4 y5 y6 y7 y8
    unfold impl_ClassOf.j1
    repeat' first
    | (with_reducible exact ih0 _ _ _ _ _ _ _ _ _ _ _)
    | (with_reducible exact ih1 _ _ _ _ _ _ _ _ _)
    | (with_reducible exact impl_LatestOf.mono _ _ _ _)
    | (with_reducible exact impl_PodOk.mono _ _ _ _ _)
    | (with_reducible exact impl_StoreOk.mono _ _)
    | (with_reducible exact LeO.refl _)
    | (with_reducible exact LeO.none _)
    | (with_reducible refine LeO.ite ?_ ?_)
    | (with_reducible refine LeO.bind ?_ (fun _ => ?_))
    | exact ih0 _ _ _ _ _ _ _ _ _ _ _
    | exact ih1 _ _ _ _ _ _ _ _ _
    | exact impl_LatestOf.mono _ _ _ _
    | exact impl_PodOk.mono _ _ _ _ _
    | exact impl_StoreOk.mono _ _
    | exact LeO.none _
    | refine LeO.ite ?_ ?_
    | refine LeO.bind ?_ (fun _ => ?_)
theorem impl_ClassOf.mono : ∀ a0 a1 a2 a3 a4 a5 a6 a7 a8 a9 k, LeO (impl_ClassOf.f k a0 a1 a2 a3 a4 a5 a6 a7 a8 a9) (impl_ClassOf.f (k + 1) a0 a1 a2 a3 a4 a5 a6 a7 a8 a9) := by
 intro a0 a1 a2 a3 a4 a5 a6 a7 a8 a9 k
 obtain ⟨ih0, ih1⟩ := impl_ClassOf.mono_l k
 unfold impl_ClassOf.f
 repeat' first
  | (with_reducible exact ih0 _ _ _ _ _ _ _ _ _ _ _)
  | (with_reducible exact ih1 _ _ _ _ _ _ _ _ _)
  | (with_reducible exact impl_LatestOf.mono _ _ _ _)
  | (with_reducible exact impl_PodOk.mono _ _ _ _ _)
  | (with_reducible exact impl_StoreOk.mono _ _)
  | (with_reducible exact LeO.refl _)
  | (with_reducible exact LeO.none _)
  | (with_reducible refine LeO.ite ?_ ?_)
  | (with_reducible refine LeO.bind ?_ (fun _ => ?_))
  | exact ih0 _ _ _ _ _ _ _ _ _ _ _
  | exact ih1 _ _ _ _ _ _ _ _ _
  | exact impl_LatestOf.mono _ _ _ _
  | exact impl_PodOk.mono _ _ _ _ _
  | exact impl_StoreOk.mono _ _
  | exact LeO.none _
  | refine LeO.ite ?_ ?_
  | refine LeO.bind ?_ (fun _ => ?_)
set_option maxHeartbeats 8000000 in
set_option maxRecDepth 100000 in
theorem impl_ClassOf.calls (k : Nat) (a0_0 : ByteArray) (a0_1 : Int) (a0_2 : Int) (a0_3 : Bool) (A1 : Option Addr) (c1 : Nat) (l1 : List (S81)) (a2 : ByteArray) (a3 : Int) (a4_0 : Int) (a4_1 : Int) (a4_2 : Int) (r : Int) (w : World) (hr1 : Kd.C k81 w A1 l1.length l1) (hc1 : l1.length ≤ c1) (h : impl_ClassOf.f k a0_0 a0_1 a0_2 a0_3 l1 a2 a3 a4_0 a4_1 a4_2 = some r) :
 Calls Try.prog 90 #[.agg #[.string a0_0, .int .i64 a0_1, .int .i64 a0_2, .bool a0_3], .slice A1 l1.length c1, .string a2, .int .i64 a3, .agg #[.int .i64 a4_0, .int .i64 a4_1, .int .i64 a4_2]] w fun e w' => e = .returned (.int .i64 r) ∧ Below w.heap.size w w' := by
 have hu147 := Try.underlying147
 have hu61 := Try.underlying61
 have hu37 := Try.underlying37
 have HR1 := Aside0.mk hr1
 have HC1 := Aside0.mk hc1
 clear hr1 hc1
 have HB := Aside0.mk (Below.refl w.heap.size w)
 have H : ((impl_PodOk.f k a0_0 a0_1 a0_2 a0_3).bind fun t446 => (if t446 = true then ((impl_RulesOk.f a4_0 a4_1 a4_2).bind fun t447 => (if t447 = true then ((impl_isTick.f a3).bind fun t448 => (if t448 = true then ((impl_StoreOk.f k l1).bind fun t449 => (impl_ClassOf.j0 k l1 a2 a3 (!t449) a0_0 a0_1 a0_2 a0_3 a4_0 a4_1 a4_2)) else (impl_ClassOf.j0 k l1 a2 a3 true a0_0 a0_1 a0_2 a0_3 a4_0 a4_1 a4_2))) else (impl_ClassOf.j0 k l1 a2 a3 true a0_0 a0_1 a0_2 a0_3 a4_0 a4_1 a4_2))) else (impl_ClassOf.j0 k l1 a2 a3 true a0_0 a0_1 a0_2 a0_3 a4_0 a4_1 a4_2))) = some r := h
 clear h
 have HC6 := Aside0.mk H
 clear H
 go_enter Try.func90, Try.ntmps90
 go_upto_region 1 with (first | ((with_reducible refine gate_dst (N := 5) rfl ?_); refine bx 5 #[.string a0_0, .int .i64 a0_1, .int .i64 a0_2, .bool a0_3] 147 ?_; intro gb444 hg w7 hbox hb; have BK444 := ak hbox; have GW444 := gs hg bl; have GE444 := gs hg bl; replace HB := ak (below_step bl hb); clear hb hbox hg) | ((with_reducible refine gate_dst (N := 9) rfl ?_); refine bx 9 #[.int .i64 a4_0, .int .i64 a4_1, .int .i64 a4_2] 61 ?_; intro gb445 hg w8 hbox hb; have BK445 := ak hbox; have GW445 := gs hg (bl1 GE444); have GE445 := gs hg (bl1 GE444); replace HB := ak (below_step (bl1 GE444) hb); have NB444_445 := nl hg BK444; have NB445_444 := ng hg BK444; replace BK444 := bb BK444 hb; clear hb hbox hg))
 (try simp only [Act.put, List.setIfInBounds_toArray, List.set_cons_zero, List.set_cons_succ])
 go_cut [30] (fun v30 wc => ∃ (kq : Nat) (x30_5 : Bool), v30 = .bool x30_5 ∧ Aside0 (impl_ClassOf.j0 kq l1 a2 a3 x30_5 a0_0 a0_1 a0_2 a0_3 a4_0 a4_1 a4_2 = some r) ∧ Aside0 (kq ≤ k) ∧ Aside0 (wc.heap[gb444]? = some (.cells #[.string a0_0, .int .i64 a0_1, .int .i64 a0_2, .bool a0_3] 147 (0, 0))) ∧ Aside0 (wc.heap[gb445]? = some (.cells #[.int .i64 a4_0, .int .i64 a4_1, .int .i64 a4_2] 61 (0, 0))) ∧ Aside0 (Below w.heap.size w wc))
 case first =>
  have H := HC6.out
  clear HC6
  obtain ⟨t446, A90, H⟩ := bo H
  have A9 := Aside0.mk A90
  clear A90
  by_cases c10 : t446 = true
  · subst c10
    replace H := iT H
    obtain ⟨t447, A110, H⟩ := bo H
    have A11 := Aside0.mk A110
    clear A110
    by_cases c12 : t447 = true
    · subst c12
      replace H := iT H
      obtain ⟨t448, A130, H⟩ := bo H
      have A13 := Aside0.mk A130
      clear A130
      by_cases c14 : t448 = true
      · subst c14
        replace H := iT H
        obtain ⟨t449, A150, H⟩ := bo H
        have A15 := Aside0.mk A150
        clear A150
        have H' := Aside0.mk H
        clear H
        have hnb16 := NB444_445.out
        have hnc16 := NB445_444.out
        obtain ⟨hcz17_0, hcz17_1, hcz17_2, hcz17_3, hfz17_0, hfz17_1, hfz17_2, hfz17_3⟩ := cz4 BK444
        go_wp2_with (first | ((with_reducible refine gate_callee (f := 139) rfl ?_); refine gl (some 14) Try.func139 #[.agg #[.string a0_0, .int .i64 a0_1, .int .i64 a0_2, .bool a0_3]] ?_; (with_reducible refine (impl_PodOk.calls k a0_0 a0_1 a0_2 a0_3 true _ A9.out).mono ?_); rintro e w18 ⟨rfl, hb⟩; refine ⟨_, rfl, ?_⟩; replace BK444 := bb BK444 hb; replace BK445 := bb BK445 hb; replace HB := ak (below_step (bl2 GE444 GE445) hb); (try clear hb); (try clear hb2); (try clear hk); (try clear hi); obtain ⟨hcz19_0, hcz19_1, hcz19_2, hfz19_0, hfz19_1, hfz19_2⟩ := cz3 BK445) | (go_at_call 140; (with_reducible refine (impl_RulesOk.calls a4_0 a4_1 a4_2 true _ A11.out).mono ?_); rintro e w20 ⟨rfl, hb⟩; replace BK444 := bb BK444 hb; replace BK445 := bb BK445 hb; replace HB := ak (below_step (bl2 GE444 GE445) hb); (try clear hb); (try clear hb2); (try clear hk); (try clear hi)) | (go_at_call 122; (with_reducible refine (impl_isTick.calls a3 true _ A13.out).mono ?_); rintro e w' ⟨rfl, ⟨nd, rfl⟩⟩) | (go_at_call 49; (with_reducible refine (impl_StoreOk.calls k _ _ l1 t449 _ ?side1 ?side2 A15.out).mono ?_); (case side1 => repeat (first | exact (Kd.C_below HR1.out (bl2 GE444 GE445)) | (with_reducible refine Kd.C_alloc ?_ _) | (with_reducible refine Kd.C_drewN ?_ _) | (with_reducible refine Kd.C_drew ?_))); (case side2 => exact HC1.out); rintro e w21 ⟨rfl, hb⟩; replace BK444 := bb BK444 hb; replace BK445 := bb BK445 hb; replace HB := ak (below_step (bl2 GE444 GE445) hb); (try clear hb); (try clear hb2); (try clear hk); (try clear hi)))
        go_meet
        case rel => exact ⟨_, (!t449), es, H', ⟨by first | omega | exact Nat.le_refl _⟩, ⟨bk BK444⟩, ⟨bk BK445⟩, ⟨bl2 GE444 GE445⟩⟩
      · replace c14 := Bool.eq_false_iff.mpr c14
        subst c14
        replace H := iF H
        have H' := Aside0.mk H
        clear H
        have hnb22 := NB444_445.out
        have hnc22 := NB445_444.out
        obtain ⟨hcz23_0, hcz23_1, hcz23_2, hcz23_3, hfz23_0, hfz23_1, hfz23_2, hfz23_3⟩ := cz4 BK444
        go_wp2_with (first | ((with_reducible refine gate_callee (f := 139) rfl ?_); refine gl (some 14) Try.func139 #[.agg #[.string a0_0, .int .i64 a0_1, .int .i64 a0_2, .bool a0_3]] ?_; (with_reducible refine (impl_PodOk.calls k a0_0 a0_1 a0_2 a0_3 true _ A9.out).mono ?_); rintro e w24 ⟨rfl, hb⟩; refine ⟨_, rfl, ?_⟩; replace BK444 := bb BK444 hb; replace BK445 := bb BK445 hb; replace HB := ak (below_step (bl2 GE444 GE445) hb); (try clear hb); (try clear hb2); (try clear hk); (try clear hi); obtain ⟨hcz25_0, hcz25_1, hcz25_2, hfz25_0, hfz25_1, hfz25_2⟩ := cz3 BK445) | (go_at_call 140; (with_reducible refine (impl_RulesOk.calls a4_0 a4_1 a4_2 true _ A11.out).mono ?_); rintro e w26 ⟨rfl, hb⟩; replace BK444 := bb BK444 hb; replace BK445 := bb BK445 hb; replace HB := ak (below_step (bl2 GE444 GE445) hb); (try clear hb); (try clear hb2); (try clear hk); (try clear hi)) | (go_at_call 122; (with_reducible refine (impl_isTick.calls a3 false _ A13.out).mono ?_); rintro e w' ⟨rfl, ⟨nd, rfl⟩⟩))
        go_meet
        case rel => exact ⟨_, (true), es, H', ⟨by first | omega | exact Nat.le_refl _⟩, ⟨bk BK444⟩, ⟨bk BK445⟩, ⟨bl2 GE444 GE445⟩⟩
    · replace c12 := Bool.eq_false_iff.mpr c12
      subst c12
      replace H := iF H
      have H' := Aside0.mk H
      clear H
      have hnb27 := NB444_445.out
      have hnc27 := NB445_444.out
      obtain ⟨hcz28_0, hcz28_1, hcz28_2, hcz28_3, hfz28_0, hfz28_1, hfz28_2, hfz28_3⟩ := cz4 BK444
      go_wp2_with (first | ((with_reducible refine gate_callee (f := 139) rfl ?_); refine gl (some 14) Try.func139 #[.agg #[.string a0_0, .int .i64 a0_1, .int .i64 a0_2, .bool a0_3]] ?_; (with_reducible refine (impl_PodOk.calls k a0_0 a0_1 a0_2 a0_3 true _ A9.out).mono ?_); rintro e w29 ⟨rfl, hb⟩; refine ⟨_, rfl, ?_⟩; replace BK444 := bb BK444 hb; replace BK445 := bb BK445 hb; replace HB := ak (below_step (bl2 GE444 GE445) hb); (try clear hb); (try clear hb2); (try clear hk); (try clear hi); obtain ⟨hcz30_0, hcz30_1, hcz30_2, hfz30_0, hfz30_1, hfz30_2⟩ := cz3 BK445) | (go_at_call 140; (with_reducible refine (impl_RulesOk.calls a4_0 a4_1 a4_2 false _ A11.out).mono ?_); rintro e w31 ⟨rfl, hb⟩; replace BK444 := bb BK444 hb; replace BK445 := bb BK445 hb; replace HB := ak (below_step (bl2 GE444 GE445) hb); (try clear hb); (try clear hb2); (try clear hk); (try clear hi)))
      go_meet
      case rel => exact ⟨_, (true), es, H', ⟨by first | omega | exact Nat.le_refl _⟩, ⟨bk BK444⟩, ⟨bk BK445⟩, ⟨bl2 GE444 GE445⟩⟩
  · replace c10 := Bool.eq_false_iff.mpr c10
    subst c10
    replace H := iF H
    have H' := Aside0.mk H
    clear H
    have hnb32 := NB444_445.out
    have hnc32 := NB445_444.out
    obtain ⟨hcz33_0, hcz33_1, hcz33_2, hcz33_3, hfz33_0, hfz33_1, hfz33_2, hfz33_3⟩ := cz4 BK444
    go_wp2_with (first | ((with_reducible refine gate_callee (f := 139) rfl ?_); refine gl (some 14) Try.func139 #[.agg #[.string a0_0, .int .i64 a0_1, .int .i64 a0_2, .bool a0_3]] ?_; (with_reducible refine (impl_PodOk.calls k a0_0 a0_1 a0_2 a0_3 false _ A9.out).mono ?_); rintro e w34 ⟨rfl, hb⟩; refine ⟨_, rfl, ?_⟩; replace BK444 := bb BK444 hb; replace BK445 := bb BK445 hb; replace HB := ak (below_step (bl2 GE444 GE445) hb); (try clear hb); (try clear hb2); (try clear hk); (try clear hi)))
    go_meet
    case rel => exact ⟨_, (true), es, H', ⟨by first | omega | exact Nat.le_refl _⟩, ⟨bk BK444⟩, ⟨bk BK445⟩, ⟨bl2 GE444 GE445⟩⟩
 case rest =>
  clear HC6
  try clear c1
  try clear c2
  try clear p2
  try clear c3
  try clear c9
  try clear c10
  try clear c12
  try clear c13
  try clear c14
  try clear c16
  try clear c22
  try clear c27
  try clear c32
  try clear hcz17_0
  try clear hcz17_1
  try clear hcz17_2
  try clear hcz17_3
  try clear hcz19_0
  try clear hcz19_1
  try clear hcz19_2
  try clear hcz23_0
  try clear hcz23_1
  try clear hcz23_2
  try clear hcz23_3
  try clear hcz25_0
  try clear hcz25_1
  try clear hcz25_2
  try clear hcz28_0
  try clear hcz28_1
  try clear hcz28_2
  try clear hcz28_3
  try clear hcz30_0
  try clear hcz30_1
  try clear hcz30_2
  try clear hcz33_0
  try clear hcz33_1
  try clear hcz33_2
  try clear hcz33_3
  try clear hfz17_0
  try clear hfz17_1
  try clear hfz17_2
  try clear hfz17_3
  try clear hfz19_0
  try clear hfz19_1
  try clear hfz19_2
  try clear hfz23_0
  try clear hfz23_1
  try clear hfz23_2
  try clear hfz23_3
  try clear hfz25_0
  try clear hfz25_1
  try clear hfz25_2
  try clear hfz28_0
  try clear hfz28_1
  try clear hfz28_2
  try clear hfz28_3
  try clear hfz30_0
  try clear hfz30_1
  try clear hfz30_2
  try clear hfz33_0
  try clear hfz33_1
  try clear hfz33_2
  try clear hfz33_3
  obtain ⟨kq, x30_5, rfl, HA, HJ5, BK444, BK445, HB⟩ := hcut
  cases kq with
  | zero => exact absurd HA.out (by simp [impl_ClassOf.j0])
  | succ kj5 =>
   have H := HA.out
   clear HA
   simp only [impl_ClassOf.j0] at H
   by_cases c35 : x30_5 = true
   · subst c35
     replace H := iT H
     obtain rfl := Option.some.inj H
     go_wp2
     go_ret
     exact ⟨ew, bl2 GE444 GE445⟩
   · replace c35 := Bool.eq_false_iff.mpr c35
     subst c35
     replace H := iF H
     replace H := Option.bind_eq_some_iff.mp H
     obtain ⟨⟨t450, t451, t452⟩, A360, H⟩ := H
     replace H : (if a0_2 = 0 then (if t452 = true then (impl_ClassOf.j1 kj5 a3 (decide ((wrap64 (t450 + a4_1)) < a3)) a0_0 a0_1 a0_2 a0_3 a4_0 a4_1 a4_2) else (impl_ClassOf.j1 kj5 a3 true a0_0 a0_1 a0_2 a0_3 a4_0 a4_1 a4_2)) else (some 3)) = some r := H
     have A36 := Aside0.mk A360
     clear A360
     by_cases c37 : a0_2 = 0
     · rw [if_pos c37] at H
       have c37b0 : (a0_2 == 0) = true := beq_iff_eq.mpr c37
       have c37b1 : (a0_2 != 0) = false := bne_eq_false_iff_eq.mpr c37
       clear c37
       have HC38 := Aside0.mk H
       clear H
       have hnb39 := NB444_445.out
       have hnc39 := NB445_444.out
       obtain ⟨hcz40_0, hcz40_1, hcz40_2, hcz40_3, hfz40_0, hfz40_1, hfz40_2, hfz40_3⟩ := cz4 BK444
       go_upto_region 6 with (first | ((with_reducible refine gate_callee (f := 20) rfl ?_); refine gl (some 36) Try.func20 #[.slice A1 l1.length c1, .string a0_0, .string a2] ?_; (with_reducible refine (impl_LatestOf.calls kj5 _ _ l1 a0_0 a2 t450 t451 t452 _ ?side1 ?side2 A36.out).mono ?_); (case side1 => exact cb HR1); (case side2 => exact HC1.out); rintro e w41 ⟨rfl, hb⟩; refine ⟨_, rfl, ?_⟩; replace BK444 := bb BK444 hb; replace BK445 := bb BK445 hb; replace HB := ak (below_step (bl2 GE444 GE445) hb); (try clear hb); (try clear hb2); (try clear hk); (try clear hi)) | ((with_reducible refine gate_dst (N := 11) rfl ?_); refine bx 11 #[.int .i64 0, .int .i64 0] 37 ?_; intro gb453 hg w42 hbox hb; have BK453 := ak hbox; have GW453 := gs hg (bl2 GE444 GE445); have GE453 := gs hg (bl2 GE444 GE445); replace HB := ak (below_step (bl2 GE444 GE445) hb); have NB444_453 := nl hg BK444; have NB453_444 := ng hg BK444; replace BK444 := bb BK444 hb; have NB445_453 := nl hg BK445; have NB453_445 := ng hg BK445; replace BK445 := bb BK445 hb; clear hb hbox hg; have hnb43 := NB453_444.out; have hnc43 := NB444_453.out; have hnb44 := NB453_445.out; have hnc44 := NB445_453.out; obtain ⟨hcz45_0, hcz45_1, hfz45_0, hfz45_1⟩ := cz2 BK453; obtain ⟨hcz46_0, hcz46_1, hcz46_2, hcz46_3, hfz46_0, hfz46_1, hfz46_2, hfz46_3⟩ := cz4 BK444))
       (try simp only [Act.put, List.setIfInBounds_toArray, List.set_cons_zero, List.set_cons_succ])
       go_cut [43] (fun v43 wc => ∃ (kq : Nat) (x43_37 : Bool), v43 = .bool x43_37 ∧ Aside0 (impl_ClassOf.j1 kq a3 x43_37 a0_0 a0_1 a0_2 a0_3 a4_0 a4_1 a4_2 = some r) ∧ Aside0 (kq ≤ kj5) ∧ Aside0 (wc.heap[gb444]? = some (.cells #[.string a0_0, .int .i64 a0_1, .int .i64 a0_2, .bool a0_3] 147 (0, 0))) ∧ Aside0 (wc.heap[gb445]? = some (.cells #[.int .i64 a4_0, .int .i64 a4_1, .int .i64 a4_2] 61 (0, 0))) ∧ Aside0 (wc.heap[gb453]? = some (.cells #[.int .i64 t450, .int .i64 t451] 37 (0, 0))) ∧ Aside0 (Below w.heap.size w wc))
       case first =>
        have H := HC38.out
        clear HC38
        by_cases c47 : t452 = true
        · subst c47
          replace H := iT H
          have H' := Aside0.mk H
          clear H
          have hnb48 := NB453_444.out
          have hnc48 := NB444_453.out
          have hnb49 := NB453_445.out
          have hnc49 := NB445_453.out
          obtain ⟨hcz50_0, hcz50_1, hfz50_0, hfz50_1⟩ := cz2 BK453
          have hnb51 := NB445_444.out
          have hnc51 := NB444_445.out
          obtain ⟨hcz52_0, hcz52_1, hcz52_2, hfz52_0, hfz52_1, hfz52_2⟩ := cz3 BK445
          go_wp2
          go_meet
          case rel => exact ⟨_, (decide ((wrap64 (t450 + a4_1)) < a3)), es, H', ⟨by have := HJ5.out; first | omega | exact Nat.le_refl _⟩, ⟨by (with_reducible repeat (first | refine blk_drewN ?_ _ | refine blk_drew ?_ | refine blk_alloc ?_ _)); refine blk_far ?_ NB444_453.out _; (with_reducible repeat (first | refine blk_drewN ?_ _ | refine blk_drew ?_ | refine blk_alloc ?_ _)); refine blk_far ?_ NB444_453.out _; (with_reducible repeat (first | refine blk_drewN ?_ _ | refine blk_drew ?_ | refine blk_alloc ?_ _)); exact BK444.out⟩, ⟨by (with_reducible repeat (first | refine blk_drewN ?_ _ | refine blk_drew ?_ | refine blk_alloc ?_ _)); refine blk_far ?_ NB445_453.out _; (with_reducible repeat (first | refine blk_drewN ?_ _ | refine blk_drew ?_ | refine blk_alloc ?_ _)); refine blk_far ?_ NB445_453.out _; (with_reducible repeat (first | refine blk_drewN ?_ _ | refine blk_drew ?_ | refine blk_alloc ?_ _)); exact BK445.out⟩, ⟨by (with_reducible repeat (first | refine blk_drewN ?_ _ | refine blk_drew ?_ | refine blk_alloc ?_ _)); refine blk_put (cs := #[.int .i64 t450, .int .i64 0]) ?_ 1 _ rfl; (with_reducible repeat (first | refine blk_drewN ?_ _ | refine blk_drew ?_ | refine blk_alloc ?_ _)); refine blk_put (cs := #[.int .i64 0, .int .i64 0]) ?_ 0 _ rfl; (with_reducible repeat (first | refine blk_drewN ?_ _ | refine blk_drew ?_ | refine blk_alloc ?_ _)); exact BK453.out⟩, ⟨bl3 GE444 GE445 GE453⟩⟩
        · replace c47 := Bool.eq_false_iff.mpr c47
          subst c47
          replace H := iF H
          have H' := Aside0.mk H
          clear H
          go_wp2
          go_meet
          case rel => exact ⟨_, (true), es, H', ⟨by have := HJ5.out; first | omega | exact Nat.le_refl _⟩, ⟨by (with_reducible repeat (first | refine blk_drewN ?_ _ | refine blk_drew ?_ | refine blk_alloc ?_ _)); refine blk_far ?_ NB444_453.out _; (with_reducible repeat (first | refine blk_drewN ?_ _ | refine blk_drew ?_ | refine blk_alloc ?_ _)); refine blk_far ?_ NB444_453.out _; (with_reducible repeat (first | refine blk_drewN ?_ _ | refine blk_drew ?_ | refine blk_alloc ?_ _)); exact BK444.out⟩, ⟨by (with_reducible repeat (first | refine blk_drewN ?_ _ | refine blk_drew ?_ | refine blk_alloc ?_ _)); refine blk_far ?_ NB445_453.out _; (with_reducible repeat (first | refine blk_drewN ?_ _ | refine blk_drew ?_ | refine blk_alloc ?_ _)); refine blk_far ?_ NB445_453.out _; (with_reducible repeat (first | refine blk_drewN ?_ _ | refine blk_drew ?_ | refine blk_alloc ?_ _)); exact BK445.out⟩, ⟨by (with_reducible repeat (first | refine blk_drewN ?_ _ | refine blk_drew ?_ | refine blk_alloc ?_ _)); refine blk_put (cs := #[.int .i64 t450, .int .i64 0]) ?_ 1 _ rfl; (with_reducible repeat (first | refine blk_drewN ?_ _ | refine blk_drew ?_ | refine blk_alloc ?_ _)); refine blk_put (cs := #[.int .i64 0, .int .i64 0]) ?_ 0 _ rfl; (with_reducible repeat (first | refine blk_drewN ?_ _ | refine blk_drew ?_ | refine blk_alloc ?_ _)); exact BK453.out⟩, ⟨bl3 GE444 GE445 GE453⟩⟩
       case rest =>
        clear HC38
        try clear c1
        try clear c2
        try clear p2
        try clear c3
        try clear c4
        try clear c5
        try clear p6
        try clear c9
        try clear c10
        try clear c12
        try clear c13
        try clear c14
        try clear c16
        try clear c20
        try clear c22
        try clear c27
        try clear c32
        try clear c35
        try clear c37
        try clear c37b0
        try clear c37b1
        try clear c39
        try clear c43
        try clear c44
        try clear c47
        try clear c48
        try clear c49
        try clear c51
        try clear hcz17_0
        try clear hcz17_1
        try clear hcz17_2
        try clear hcz17_3
        try clear hcz19_0
        try clear hcz19_1
        try clear hcz19_2
        try clear hcz23_0
        try clear hcz23_1
        try clear hcz23_2
        try clear hcz23_3
        try clear hcz25_0
        try clear hcz25_1
        try clear hcz25_2
        try clear hcz28_0
        try clear hcz28_1
        try clear hcz28_2
        try clear hcz28_3
        try clear hcz30_0
        try clear hcz30_1
        try clear hcz30_2
        try clear hcz33_0
        try clear hcz33_1
        try clear hcz33_2
        try clear hcz33_3
        try clear hcz40_0
        try clear hcz40_1
        try clear hcz40_2
        try clear hcz40_3
        try clear hcz45_0
        try clear hcz45_1
        try clear hcz46_0
        try clear hcz46_1
        try clear hcz46_2
        try clear hcz46_3
        try clear hcz50_0
        try clear hcz50_1
        try clear hcz52_0
        try clear hcz52_1
        try clear hcz52_2
        try clear hfz17_0
        try clear hfz17_1
        try clear hfz17_2
        try clear hfz17_3
        try clear hfz19_0
        try clear hfz19_1
        try clear hfz19_2
        try clear hfz23_0
        try clear hfz23_1
        try clear hfz23_2
        try clear hfz23_3
        try clear hfz25_0
        try clear hfz25_1
        try clear hfz25_2
        try clear hfz28_0
        try clear hfz28_1
        try clear hfz28_2
        try clear hfz28_3
        try clear hfz30_0
        try clear hfz30_1
        try clear hfz30_2
        try clear hfz33_0
        try clear hfz33_1
        try clear hfz33_2
        try clear hfz33_3
        try clear hfz40_0
        try clear hfz40_1
        try clear hfz40_2
        try clear hfz40_3
        try clear hfz45_0
        try clear hfz45_1
        try clear hfz46_0
        try clear hfz46_1
        try clear hfz46_2
        try clear hfz46_3
        try clear hfz50_0
        try clear hfz50_1
        try clear hfz52_0
        try clear hfz52_1
        try clear hfz52_2
        try clear p2
        obtain ⟨kq, x43_37, rfl, HA, HJ37, BK444, BK445, BK453, HB⟩ := hcut
        cases kq with
        | zero => exact absurd HA.out (by simp [impl_ClassOf.j1])
        | succ kj37 =>
         have H := HA.out
         clear HA
         simp only [impl_ClassOf.j1] at H
         by_cases c53 : x43_37 = true
         · subst c53
           replace H := iT H
           obtain rfl := Option.some.inj H
           go_wp2
           go_ret
           exact ⟨ew, bl3 GE444 GE445 GE453⟩
         · replace c53 := Bool.eq_false_iff.mpr c53
           subst c53
           replace H := iF H
           by_cases c54 : a0_3 = true
           · subst c54
             replace H := iT H
             by_cases c55 : (wrap64 (a0_1 + a4_0)) > a3
             · rw [if_pos c55] at H
               have c55b0 : decide (a3 < (wrap64 (a0_1 + a4_0))) = true := decide_eq_true c55
               clear c55
               obtain rfl := Option.some.inj H
               have hnb56 := NB444_445.out
               have hnc56 := NB445_444.out
               have hnb57 := NB444_453.out
               have hnc57 := NB453_444.out
               obtain ⟨hcz58_0, hcz58_1, hcz58_2, hcz58_3, hfz58_0, hfz58_1, hfz58_2, hfz58_3⟩ := cz4 BK444
               have hnb59 := NB445_453.out
               have hnc59 := NB453_445.out
               obtain ⟨hcz60_0, hcz60_1, hcz60_2, hfz60_0, hfz60_1, hfz60_2⟩ := cz3 BK445
               go_wp2
               go_ret
               exact ⟨ew, bl3 GE444 GE445 GE453⟩
             · rw [if_neg c55] at H
               have c55b0 : decide (a3 < (wrap64 (a0_1 + a4_0))) = false := decide_eq_false c55
               clear c55
               obtain rfl := Option.some.inj H
               have hnb61 := NB444_445.out
               have hnc61 := NB445_444.out
               have hnb62 := NB444_453.out
               have hnc62 := NB453_444.out
               obtain ⟨hcz63_0, hcz63_1, hcz63_2, hcz63_3, hfz63_0, hfz63_1, hfz63_2, hfz63_3⟩ := cz4 BK444
               have hnb64 := NB445_453.out
               have hnc64 := NB453_445.out
               obtain ⟨hcz65_0, hcz65_1, hcz65_2, hfz65_0, hfz65_1, hfz65_2⟩ := cz3 BK445
               go_wp2
               go_ret
               exact ⟨ew, bl3 GE444 GE445 GE453⟩
           · replace c54 := Bool.eq_false_iff.mpr c54
             subst c54
             replace H := iF H
             obtain rfl := Option.some.inj H
             have hnb66 := NB444_445.out
             have hnc66 := NB445_444.out
             have hnb67 := NB444_453.out
             have hnc67 := NB453_444.out
             obtain ⟨hcz68_0, hcz68_1, hcz68_2, hcz68_3, hfz68_0, hfz68_1, hfz68_2, hfz68_3⟩ := cz4 BK444
             go_wp2
             go_ret
             exact ⟨ew, bl3 GE444 GE445 GE453⟩
     · rw [if_neg c37] at H
       have c37b0 : (a0_2 == 0) = false := beq_eq_false_iff_ne.mpr c37
       have c37b1 : (a0_2 != 0) = true := bne_iff_ne.mpr c37
       obtain rfl := Option.some.inj H
       have hnb69 := NB444_445.out
       have hnc69 := NB445_444.out
       obtain ⟨hcz70_0, hcz70_1, hcz70_2, hcz70_3, hfz70_0, hfz70_1, hfz70_2, hfz70_3⟩ := cz4 BK444
       go_wp2_with (first | ((with_reducible refine gate_callee (f := 20) rfl ?_); refine gl (some 36) Try.func20 #[.slice A1 l1.length c1, .string a0_0, .string a2] ?_; (with_reducible refine (impl_LatestOf.calls kj5 _ _ l1 a0_0 a2 t450 t451 t452 _ ?side1 ?side2 A36.out).mono ?_); (case side1 => exact cb HR1); (case side2 => exact HC1.out); rintro e w71 ⟨rfl, hb⟩; refine ⟨_, rfl, ?_⟩; replace BK444 := bb BK444 hb; replace BK445 := bb BK445 hb; replace HB := ak (below_step (bl2 GE444 GE445) hb); (try clear hb); (try clear hb2); (try clear hk); (try clear hi)) | ((with_reducible refine gate_dst (N := 11) rfl ?_); refine bx 11 #[.int .i64 0, .int .i64 0] 37 ?_; intro gb453 hg w72 hbox hb; have BK453 := ak hbox; have GW453 := gs hg (bl2 GE444 GE445); have GE453 := gs hg (bl2 GE444 GE445); replace HB := ak (below_step (bl2 GE444 GE445) hb); have NB444_453 := nl hg BK444; have NB453_444 := ng hg BK444; replace BK444 := bb BK444 hb; have NB445_453 := nl hg BK445; have NB453_445 := ng hg BK445; replace BK445 := bb BK445 hb; clear hb hbox hg; have hnb73 := NB453_444.out; have hnc73 := NB444_453.out; have hnb74 := NB453_445.out; have hnc74 := NB445_453.out; obtain ⟨hcz75_0, hcz75_1, hfz75_0, hfz75_1⟩ := cz2 BK453; obtain ⟨hcz76_0, hcz76_1, hcz76_2, hcz76_3, hfz76_0, hfz76_1, hfz76_2, hfz76_3⟩ := cz4 BK444))
       go_ret
       exact ⟨ew, bl3 GE444 GE445 GE453⟩

end Go.Proofs.Ytplekidnlofioaa.Q
