/- Part 5 of the proof of FnExactAverageOf: contracts of the functions that it reaches, printed and by hand, and what they come to in plain Lean. -/
import Derived.Test.YtklbbgilfahjhaaAFnExactAverageOf2
import Derived.Test.YtklbbgilfahjhaaAFnExactAverageOf4
import Derived.Lib.Strings
import Derived.Test.YtklbbgilfahjhaaAFnExactAverageOf3
namespace Go.Proofs.Ytklbbgilfahjhaa.Q
open Go.RowKit Go.Proofs.YtklbbgilfahjhaaW.PrintWords Go.Proofs.YtklbbgilfahjhaaW.PrintLast Go.Proofs.YtklbbgilfahjhaaW.PrintMore
attribute [local go_sem] max2_int min2_int max_two min_two max_three min_three max_four min_four   -- for this text's walks alone
set_option linter.unusedVariables false
set_option linter.unusedSimpArgs false

/-! ### impl_pointsOf: function 70 -/
def impl_pointsOf.l0 : Nat → ByteArray → ByteArray → List (S84) → Int → Int → Option ((List (S37)))
 | 0, _, _, _, _, _ => none
 | k + 1, x1, x2, x9, x10, x11 => if x11 < x10 then (if 0 ≤ x11 then (if x11 < (x9.length : Int) then (if ((rd_T84 x9 x11).f0).toList = x1.toList then (if ((rd_T84 x9 x11).f1).toList = x2.toList then (some ((rd_T84 x9 x11).f2)) else (impl_pointsOf.l0 k x1 x2 x9 x10 (wrap64 (x11 + 1)))) else (impl_pointsOf.l0 k x1 x2 x9 x10 (wrap64 (x11 + 1)))) else (none)) else (none)) else (some ([] : List (S37)))
def impl_pointsOf.f (k : Nat) (l0 : List (S84)) (a1 : ByteArray) (a2 : ByteArray) : Option ((List (S37))) := impl_pointsOf.l0 k a1 a2 l0 (l0.length : Int) 0
theorem impl_pointsOf.mono_l : ∀ k, (∀ y0 y1 y2 y3 y4, LeO (impl_pointsOf.l0 k y0 y1 y2 y3 y4) (impl_pointsOf.l0 (k + 1) y0 y1 y2 y3 y4))
 | 0 => fun _ _ _ _ _ r h => by simp [impl_pointsOf.l0] at h
 | k + 1 => by
  have ih0 := impl_pointsOf.mono_l k
  · intro y0 y1 y2 y3 y4
    unfold impl_pointsOf.l0
    repeat' first
    | (with_reducible exact ih0 _ _ _ _ _)
    | (with_reducible exact LeO.refl _)
    | (with_reducible exact LeO.none _)
    | (with_reducible refine LeO.ite ?_ ?_)
    | (with_reducible refine LeO.bind ?_ (fun _ => ?_))
    | exact ih0 _ _ _ _ _
    | exact LeO.none _
    | refine LeO.ite ?_ ?_
    | refine LeO.bind ?_ (fun _ => ?_)
theorem impl_pointsOf.mono : ∀ a0 a1 a2 k, LeO (impl_pointsOf.f k a0 a1 a2) (impl_pointsOf.f (k + 1) a0 a1 a2) := by
 intro a0 a1 a2 k
 have ih0 := impl_pointsOf.mono_l k
 unfold impl_pointsOf.f
 repeat' first
  | (with_reducible exact ih0 _ _ _ _ _)
  | (with_reducible exact LeO.refl _)
  | (with_reducible exact LeO.none _)
  | (with_reducible refine LeO.ite ?_ ?_)
  | (with_reducible refine LeO.bind ?_ (fun _ => ?_))
  | exact ih0 _ _ _ _ _
  | exact LeO.none _
  | refine LeO.ite ?_ ?_
  | refine LeO.bind ?_ (fun _ => ?_)
set_option maxHeartbeats 8000000 in
set_option maxRecDepth 100000 in
theorem impl_pointsOf.calls (k : Nat) (P0_ : Nat → Prop) (A0 : Option Addr) (c0 : Nat) (l0 : List (S84)) (a1 : ByteArray) (a2 : ByteArray) (r : List (S37)) (w : World) (hs0 : Kd.V k84 84 w w.heap.size (fun k_ => P0_ k_) (.slice A0 l0.length c0) l0) (h : impl_pointsOf.f k l0 a1 a2 = some r) :
 Calls Try.prog 70 #[.slice A0 l0.length c0, .string a1, .string a2] w fun e w' => ∃ v0_ : Value, e = .returned (v0_) ∧ Kd.V k37 37 w' w.heap.size (fun k_ => (P0_ k_ ∨ w.heap.size ≤ k_)) v0_ r ∧ Below w.heap.size w w' := by
 have hu84 := Try.underlying84
 have HO0 := Aside0.mk (show Kd.V k84 84 w w.heap.size (fun k_ => (P0_ k_ ∨ w.heap.size ≤ k_)) (.slice A0 l0.length c0) l0 from Kd.V_mono hs0 (fun k_ hk => .inl hk))
 have HB := Aside0.mk (Below.refl w.heap.size w)
 have H : (impl_pointsOf.l0 k a1 a2 l0 (l0.length : Int) 0) = some r := h
 clear h
 have H' := Aside0.mk H
 clear H
 go_enter Try.func70, Try.ntmps70
 go_wp2
 go_loopg [11] k (fun kq v11 w' => ∃ (x11_1 : Int), v11 = .int .i64 x11_1 ∧ Aside0 (impl_pointsOf.l0 kq a1 a2 l0 (l0.length : Int) x11_1 = some r) ∧ Aside0 (kq ≤ k) ∧ Aside0 (Kd.V k84 84 w' w.heap.size (fun k_ => (P0_ k_ ∨ w.heap.size ≤ k_)) (.slice A0 l0.length c0) l0) ∧ Aside0 (Below w.heap.size w w'))
 case atStart => exact ⟨(0), (by first | rfl | (simp; done) | (simp [*]; done)), H', ⟨Nat.le_refl _⟩, ⟨by (with_reducible repeat (first | apply Kd.V_alloc | apply Kd.V_drewN | apply Kd.V_drew)); exact HO0.out⟩, ⟨by repeat (first | (with_reducible first | exact HB.out | apply below_alloc | apply pw_below_drewN | apply below_drew1) | exact HB.out)⟩⟩
 case round =>
  clear H'
  try clear p2
  obtain ⟨x11_1, rfl, HA, HK1, HO_9, HB⟩ := hrel
  cases gk with
  | zero => exact absurd HA.out (by simp [impl_pointsOf.l0])
  | succ k1 =>
   have H := HA.out
   clear HA
   simp only [impl_pointsOf.l0] at H
   by_cases c4 : x11_1 < (l0.length : Int)
   · rw [if_pos c4] at H
     have c4b0 : decide (x11_1 < (l0.length : Int)) = true := decide_eq_true c4
     clear c4
     by_cases c5 : 0 ≤ x11_1
     · rw [if_pos c5] at H
       have c5b0 : decide (0 ≤ x11_1) = true := decide_eq_true c5
       clear c5
       by_cases c6 : x11_1 < (l0.length : Int)
       · rw [if_pos c6] at H
         have c6b0 : decide (x11_1 < (l0.length : Int)) = true := decide_eq_true c6
         clear c6
         by_cases c7 : ((rd_T84 l0 x11_1).f0).toList = a1.toList
         · rw [if_pos c7] at H
           have c7b0 : (((rd_T84 l0 x11_1).f0).toList == a1.toList) = true := beq_iff_eq.mpr c7
           have c7b1 : (((rd_T84 l0 x11_1).f0).toList != a1.toList) = false := bne_eq_false_iff_eq.mpr c7
           clear c7
           by_cases c8 : ((rd_T84 l0 x11_1).f1).toList = a2.toList
           · rw [if_pos c8] at H
             have c8b0 : (((rd_T84 l0 x11_1).f1).toList == a2.toList) = true := beq_iff_eq.mpr c8
             have c8b1 : (((rd_T84 l0 x11_1).f1).toList != a2.toList) = false := bne_eq_false_iff_eq.mpr c8
             clear c8
             obtain rfl := Option.some.inj H
             have p170 : 0 ≤ (x11_1 : Int) := of_decide_eq_true (by first | (with_reducible assumption) | assumption)
             have q170 : x11_1 < (l0.length : Int) := of_decide_eq_true (by first | (with_reducible assumption) | assumption)
             obtain ⟨ad170, A170_2, c170_2, e170, hx170_0, hx170_1, hx170_2, hl170_2, hi170_2⟩ := at_T84 (Kd.V_reads' HO_9.out).2.2 x11_1 p170 q170
             cases e170
             obtain ⟨ce170, hce170, hMe170, hcc170⟩ := Kd.V_get HO_9.out z84 x11_1 p170 (by first | exact q170 | exact of_decide_eq_true (by first | (with_reducible assumption) | assumption) | (have e_ := (Kd.V_reads' HO_9.out).1; omega))
             obtain ⟨ua170_2, uc170_2, rfl, ul170_2, ge170_2⟩ := k84_openF hMe170
             have hv170_2 := hcc170 2 _ rfl
             rw [add_field _ _ 2 (by omega)] at hv170_2
             replace hv170_2 := Option.some.inj (hv170_2.symm.trans hx170_2)
             injection hv170_2 with hva_ hvn_ hvc_
             rw [hva_] at ge170_2
             rw [hvc_] at ul170_2
             have HL170_2 := Aside0.mk (show Kd.V k37 37 _ w.heap.size _ _ ((rd_T84 l0 x11_1).f2) from Kd.V_mk ul170_2 ge170_2)
             clear hva_ hvn_ hvc_ ge170_2 ul170_2
             clear hcc170 hce170
             have HR170_2 := Aside0.mk hi170_2
             have HC170_2 := Aside0.mk hl170_2
             clear hi170_2 hl170_2
             replace p170 := eq_true p170
             replace q170 := eq_true q170
             go_wp2_with (first | ((with_reducible refine gate_dst (N := 8) rfl ?_); refine box_event ?hg (N := 8) ?hd (cs := #[.string (⟨#[]⟩ : ByteArray), .string (⟨#[]⟩ : ByteArray), .slice none 0 0]) (t := 84) ?hr ?_; (case hd => rfl); (case hg => rfl); (case hr => first | (go_simp; done) | (go_simp; rfl)); intro gb171 hg w9 hbox hb; have n0_ := Aside0.mk (Kd.V_below (Kd.V_elderB (by (with_reducible repeat (first | apply Kd.V_alloc | apply Kd.V_drewN | apply Kd.V_drew)); exact HO_9.out) gb171 (Nat.le_of_eq hg.symm)) hb); have n1_ := Aside0.mk (Kd.V_below (Kd.V_elderB (by (with_reducible repeat (first | apply Kd.V_alloc | apply Kd.V_drewN | apply Kd.V_drew)); exact HL170_2.out) gb171 (Nat.le_of_eq hg.symm)) hb); have n2_ := Aside0.mk (Kd.C_below (by repeat (first | (with_reducible exact HR170_2.out) | (with_reducible refine Kd.C_alloc ?_ _) | (with_reducible refine Kd.C_drewN ?_ _) | (with_reducible refine Kd.C_drew ?_) | exact HR170_2.out)) hb); have n3_ := Aside0.mk (below_step (by repeat (first | (with_reducible first | exact HB.out | apply below_alloc | apply pw_below_drewN | apply below_drew1) | exact HB.out)) hb); have n4_ := Aside0.mk (hbox); have n5_ := Aside0.mk ((by rw [hg]; exact (below_size (by repeat (first | (with_reducible first | exact HB.out | apply below_alloc | apply pw_below_drewN | apply below_drew1) | exact HB.out))) : w.heap.size ≤ gb171)); have n6_ := Aside0.mk ((by rw [hg]; exact (below_size (by repeat (first | (with_reducible first | exact HB.out | apply below_alloc | apply pw_below_drewN | apply below_drew1) | exact HB.out))) : w.heap.size ≤ gb171)); clear HO_9; clear HL170_2; clear HR170_2; clear HB; have HO_9 := n0_; have HL170_2 := n1_; have HR170_2 := n2_; have HB := n3_; have BK171 := n4_; have GW171 := n5_; have GE171 := n6_; clear n0_ n1_ n2_ n3_ n4_ n5_ n6_; clear hb hbox hg; have hcz10_0 : w9.cell? ⟨gb171, 0, none⟩ = some (.string (⟨#[]⟩ : ByteArray)) := (blk_cell BK171.out 0).trans rfl; have hcz10_1 : w9.cell? ⟨gb171, 1, none⟩ = some (.string (⟨#[]⟩ : ByteArray)) := (blk_cell BK171.out 1).trans rfl; have hcz10_2 : w9.cell? ⟨gb171, 2, none⟩ = some (.slice none 0 0) := (blk_cell BK171.out 2).trans rfl; have hfz10_0 := blk_frozen BK171.out 0; have hfz10_1 := blk_frozen BK171.out 1; have hfz10_2 := blk_frozen BK171.out 2))
             go_ret
             exact ⟨_, by first | rfl | (simp [errW_none, errW_some] <;> rfl) | (simp [*, errW_none, errW_some] <;> rfl), by (with_reducible repeat (first | apply Kd.V_alloc | apply Kd.V_drewN | apply Kd.V_drew)); exact Kd.V_mono (Kd.V_far (p := ⟨gb171, 2, none⟩) (Kd.V_far (p := ⟨gb171, 1, none⟩) (Kd.V_far (p := ⟨gb171, 0, none⟩) (Kd.V_mono HL170_2.out (fun k_ hk => (⟨hk, hk.2⟩ : _ ∧ k_ ≠ gb171))) (fun _ hk => hk.2) (.string ((rd_T84 l0 x11_1).f0))) (fun _ hk => hk.2) (.string ((rd_T84 l0 x11_1).f1))) (fun _ hk => hk.2) (.slice A170_2 ((rd_T84 l0 x11_1).f2).length c170_2)) (fun _ hk => hk.1.1), by repeat (first | (with_reducible first | exact HB.out | apply below_alloc | apply pw_below_drewN | apply below_drew1 | refine below_set ?_ GE171.out) | exact HB.out)⟩
           · rw [if_neg c8] at H
             have c8b0 : (((rd_T84 l0 x11_1).f1).toList == a2.toList) = false := beq_eq_false_iff_ne.mpr c8
             have c8b1 : (((rd_T84 l0 x11_1).f1).toList != a2.toList) = true := bne_iff_ne.mpr c8
             have H' := Aside0.mk H
             clear H
             have p170 : 0 ≤ (x11_1 : Int) := of_decide_eq_true (by first | (with_reducible assumption) | assumption)
             have q170 : x11_1 < (l0.length : Int) := of_decide_eq_true (by first | (with_reducible assumption) | assumption)
             obtain ⟨ad170, A170_2, c170_2, e170, hx170_0, hx170_1, hx170_2, hl170_2, hi170_2⟩ := at_T84 (Kd.V_reads' HO_9.out).2.2 x11_1 p170 q170
             cases e170
             obtain ⟨ce170, hce170, hMe170, hcc170⟩ := Kd.V_get HO_9.out z84 x11_1 p170 (by first | exact q170 | exact of_decide_eq_true (by first | (with_reducible assumption) | assumption) | (have e_ := (Kd.V_reads' HO_9.out).1; omega))
             obtain ⟨ua170_2, uc170_2, rfl, ul170_2, ge170_2⟩ := k84_openF hMe170
             have hv170_2 := hcc170 2 _ rfl
             rw [add_field _ _ 2 (by omega)] at hv170_2
             replace hv170_2 := Option.some.inj (hv170_2.symm.trans hx170_2)
             injection hv170_2 with hva_ hvn_ hvc_
             rw [hva_] at ge170_2
             rw [hvc_] at ul170_2
             have HL170_2 := Aside0.mk (show Kd.V k37 37 _ w.heap.size _ _ ((rd_T84 l0 x11_1).f2) from Kd.V_mk ul170_2 ge170_2)
             clear hva_ hvn_ hvc_ ge170_2 ul170_2
             clear hcc170 hce170
             have HR170_2 := Aside0.mk hi170_2
             have HC170_2 := Aside0.mk hl170_2
             clear hi170_2 hl170_2
             replace p170 := eq_true p170
             replace q170 := eq_true q170
             go_wp2_with (first | ((with_reducible refine gate_dst (N := 8) rfl ?_); refine box_event ?hg (N := 8) ?hd (cs := #[.string (⟨#[]⟩ : ByteArray), .string (⟨#[]⟩ : ByteArray), .slice none 0 0]) (t := 84) ?hr ?_; (case hd => rfl); (case hg => rfl); (case hr => first | (go_simp; done) | (go_simp; rfl)); intro gb171 hg w11 hbox hb; have n0_ := Aside0.mk (Kd.V_below (Kd.V_elderB (by (with_reducible repeat (first | apply Kd.V_alloc | apply Kd.V_drewN | apply Kd.V_drew)); exact HO_9.out) gb171 (Nat.le_of_eq hg.symm)) hb); have n1_ := Aside0.mk (Kd.V_below (Kd.V_elderB (by (with_reducible repeat (first | apply Kd.V_alloc | apply Kd.V_drewN | apply Kd.V_drew)); exact HL170_2.out) gb171 (Nat.le_of_eq hg.symm)) hb); have n2_ := Aside0.mk (Kd.C_below (by repeat (first | (with_reducible exact HR170_2.out) | (with_reducible refine Kd.C_alloc ?_ _) | (with_reducible refine Kd.C_drewN ?_ _) | (with_reducible refine Kd.C_drew ?_) | exact HR170_2.out)) hb); have n3_ := Aside0.mk (below_step (by repeat (first | (with_reducible first | exact HB.out | apply below_alloc | apply pw_below_drewN | apply below_drew1) | exact HB.out)) hb); have n4_ := Aside0.mk (hbox); have n5_ := Aside0.mk ((by rw [hg]; exact (below_size (by repeat (first | (with_reducible first | exact HB.out | apply below_alloc | apply pw_below_drewN | apply below_drew1) | exact HB.out))) : w.heap.size ≤ gb171)); have n6_ := Aside0.mk ((by rw [hg]; exact (below_size (by repeat (first | (with_reducible first | exact HB.out | apply below_alloc | apply pw_below_drewN | apply below_drew1) | exact HB.out))) : w.heap.size ≤ gb171)); clear HO_9; clear HL170_2; clear HR170_2; clear HB; have HO_9 := n0_; have HL170_2 := n1_; have HR170_2 := n2_; have HB := n3_; have BK171 := n4_; have GW171 := n5_; have GE171 := n6_; clear n0_ n1_ n2_ n3_ n4_ n5_ n6_; clear hb hbox hg; have hcz12_0 : w11.cell? ⟨gb171, 0, none⟩ = some (.string (⟨#[]⟩ : ByteArray)) := (blk_cell BK171.out 0).trans rfl; have hcz12_1 : w11.cell? ⟨gb171, 1, none⟩ = some (.string (⟨#[]⟩ : ByteArray)) := (blk_cell BK171.out 1).trans rfl; have hcz12_2 : w11.cell? ⟨gb171, 2, none⟩ = some (.slice none 0 0) := (blk_cell BK171.out 2).trans rfl; have hfz12_0 := blk_frozen BK171.out 0; have hfz12_1 := blk_frozen BK171.out 1; have hfz12_2 := blk_frozen BK171.out 2))
             go_roundg k1
             case measure => have := HK1.out; omega
             case rel => exact ⟨(wrap64 (x11_1 + 1)), (by first | rfl | (simp; done) | (simp [*]; done)), H', ⟨by have := HK1.out; omega⟩, ⟨by (with_reducible repeat (first | apply Kd.V_alloc | apply Kd.V_drewN | apply Kd.V_drew)); exact Kd.V_mono (Kd.V_far (p := ⟨gb171, 2, none⟩) (Kd.V_far (p := ⟨gb171, 1, none⟩) (Kd.V_far (p := ⟨gb171, 0, none⟩) (Kd.V_mono HO_9.out (fun k_ hk => (⟨hk, hk.2⟩ : _ ∧ k_ ≠ gb171))) (fun _ hk => hk.2) (.string ((rd_T84 l0 x11_1).f0))) (fun _ hk => hk.2) (.string ((rd_T84 l0 x11_1).f1))) (fun _ hk => hk.2) (.slice A170_2 ((rd_T84 l0 x11_1).f2).length c170_2)) (fun _ hk => hk.1.1)⟩, ⟨by repeat (first | (with_reducible first | exact HB.out | apply below_alloc | apply pw_below_drewN | apply below_drew1 | refine below_set ?_ GE171.out) | exact HB.out)⟩⟩
         · rw [if_neg c7] at H
           have c7b0 : (((rd_T84 l0 x11_1).f0).toList == a1.toList) = false := beq_eq_false_iff_ne.mpr c7
           have c7b1 : (((rd_T84 l0 x11_1).f0).toList != a1.toList) = true := bne_iff_ne.mpr c7
           have H' := Aside0.mk H
           clear H
           have p170 : 0 ≤ (x11_1 : Int) := of_decide_eq_true (by first | (with_reducible assumption) | assumption)
           have q170 : x11_1 < (l0.length : Int) := of_decide_eq_true (by first | (with_reducible assumption) | assumption)
           obtain ⟨ad170, A170_2, c170_2, e170, hx170_0, hx170_1, hx170_2, hl170_2, hi170_2⟩ := at_T84 (Kd.V_reads' HO_9.out).2.2 x11_1 p170 q170
           cases e170
           obtain ⟨ce170, hce170, hMe170, hcc170⟩ := Kd.V_get HO_9.out z84 x11_1 p170 (by first | exact q170 | exact of_decide_eq_true (by first | (with_reducible assumption) | assumption) | (have e_ := (Kd.V_reads' HO_9.out).1; omega))
           obtain ⟨ua170_2, uc170_2, rfl, ul170_2, ge170_2⟩ := k84_openF hMe170
           have hv170_2 := hcc170 2 _ rfl
           rw [add_field _ _ 2 (by omega)] at hv170_2
           replace hv170_2 := Option.some.inj (hv170_2.symm.trans hx170_2)
           injection hv170_2 with hva_ hvn_ hvc_
           rw [hva_] at ge170_2
           rw [hvc_] at ul170_2
           have HL170_2 := Aside0.mk (show Kd.V k37 37 _ w.heap.size _ _ ((rd_T84 l0 x11_1).f2) from Kd.V_mk ul170_2 ge170_2)
           clear hva_ hvn_ hvc_ ge170_2 ul170_2
           clear hcc170 hce170
           have HR170_2 := Aside0.mk hi170_2
           have HC170_2 := Aside0.mk hl170_2
           clear hi170_2 hl170_2
           replace p170 := eq_true p170
           replace q170 := eq_true q170
           go_wp2_with (first | ((with_reducible refine gate_dst (N := 8) rfl ?_); refine box_event ?hg (N := 8) ?hd (cs := #[.string (⟨#[]⟩ : ByteArray), .string (⟨#[]⟩ : ByteArray), .slice none 0 0]) (t := 84) ?hr ?_; (case hd => rfl); (case hg => rfl); (case hr => first | (go_simp; done) | (go_simp; rfl)); intro gb171 hg w13 hbox hb; have n0_ := Aside0.mk (Kd.V_below (Kd.V_elderB (by (with_reducible repeat (first | apply Kd.V_alloc | apply Kd.V_drewN | apply Kd.V_drew)); exact HO_9.out) gb171 (Nat.le_of_eq hg.symm)) hb); have n1_ := Aside0.mk (Kd.V_below (Kd.V_elderB (by (with_reducible repeat (first | apply Kd.V_alloc | apply Kd.V_drewN | apply Kd.V_drew)); exact HL170_2.out) gb171 (Nat.le_of_eq hg.symm)) hb); have n2_ := Aside0.mk (Kd.C_below (by repeat (first | (with_reducible exact HR170_2.out) | (with_reducible refine Kd.C_alloc ?_ _) | (with_reducible refine Kd.C_drewN ?_ _) | (with_reducible refine Kd.C_drew ?_) | exact HR170_2.out)) hb); have n3_ := Aside0.mk (below_step (by repeat (first | (with_reducible first | exact HB.out | apply below_alloc | apply pw_below_drewN | apply below_drew1) | exact HB.out)) hb); have n4_ := Aside0.mk (hbox); have n5_ := Aside0.mk ((by rw [hg]; exact (below_size (by repeat (first | (with_reducible first | exact HB.out | apply below_alloc | apply pw_below_drewN | apply below_drew1) | exact HB.out))) : w.heap.size ≤ gb171)); have n6_ := Aside0.mk ((by rw [hg]; exact (below_size (by repeat (first | (with_reducible first | exact HB.out | apply below_alloc | apply pw_below_drewN | apply below_drew1) | exact HB.out))) : w.heap.size ≤ gb171)); clear HO_9; clear HL170_2; clear HR170_2; clear HB; have HO_9 := n0_; have HL170_2 := n1_; have HR170_2 := n2_; have HB := n3_; have BK171 := n4_; have GW171 := n5_; have GE171 := n6_; clear n0_ n1_ n2_ n3_ n4_ n5_ n6_; clear hb hbox hg; have hcz14_0 : w13.cell? ⟨gb171, 0, none⟩ = some (.string (⟨#[]⟩ : ByteArray)) := (blk_cell BK171.out 0).trans rfl; have hcz14_1 : w13.cell? ⟨gb171, 1, none⟩ = some (.string (⟨#[]⟩ : ByteArray)) := (blk_cell BK171.out 1).trans rfl; have hcz14_2 : w13.cell? ⟨gb171, 2, none⟩ = some (.slice none 0 0) := (blk_cell BK171.out 2).trans rfl; have hfz14_0 := blk_frozen BK171.out 0; have hfz14_1 := blk_frozen BK171.out 1; have hfz14_2 := blk_frozen BK171.out 2))
           go_roundg k1
           case measure => have := HK1.out; omega
           case rel => exact ⟨(wrap64 (x11_1 + 1)), (by first | rfl | (simp; done) | (simp [*]; done)), H', ⟨by have := HK1.out; omega⟩, ⟨by (with_reducible repeat (first | apply Kd.V_alloc | apply Kd.V_drewN | apply Kd.V_drew)); exact Kd.V_mono (Kd.V_far (p := ⟨gb171, 2, none⟩) (Kd.V_far (p := ⟨gb171, 1, none⟩) (Kd.V_far (p := ⟨gb171, 0, none⟩) (Kd.V_mono HO_9.out (fun k_ hk => (⟨hk, hk.2⟩ : _ ∧ k_ ≠ gb171))) (fun _ hk => hk.2) (.string ((rd_T84 l0 x11_1).f0))) (fun _ hk => hk.2) (.string ((rd_T84 l0 x11_1).f1))) (fun _ hk => hk.2) (.slice A170_2 ((rd_T84 l0 x11_1).f2).length c170_2)) (fun _ hk => hk.1.1)⟩, ⟨by repeat (first | (with_reducible first | exact HB.out | apply below_alloc | apply pw_below_drewN | apply below_drew1 | refine below_set ?_ GE171.out) | exact HB.out)⟩⟩
       · rw [if_neg c6] at H
         exact absurd H (by simp)
     · rw [if_neg c5] at H
       exact absurd H (by simp)
   · rw [if_neg c4] at H
     have c4b0 : decide (x11_1 < (l0.length : Int)) = false := decide_eq_false c4
     clear c4
     obtain rfl := Option.some.inj H
     go_wp2
     go_ret
     exact ⟨.slice none 0 0, by first | rfl | (simp [errW_none, errW_some] <;> rfl) | (simp [*, errW_none, errW_some] <;> rfl), Kd.V_nil _ _ _ _ _, by repeat (first | (with_reducible first | exact HB.out | apply below_alloc | apply pw_below_drewN | apply below_drew1) | exact HB.out)⟩

end Go.Proofs.Ytklbbgilfahjhaa.Q
namespace Go.Proofs.Ytklbbgilfahjhaa.Q
open Go.RowKit Go.Proofs.YtklbbgilfahjhaaW.PrintWords Go.Proofs.YtklbbgilfahjhaaW.PrintLast Go.Proofs.YtklbbgilfahjhaaW.PrintMore
attribute [local go_sem] max2_int min2_int max_two min_two max_three min_three max_four min_four   -- for this text's walks alone
set_option linter.unusedVariables false
set_option linter.unusedSimpArgs false

/-! ### impl_SeriesOf: function 16 -/
def impl_SeriesOf.f (k : Nat) (l0 : List (S84)) (a1 : ByteArray) (a2 : ByteArray) : Option ((List (S37)) × Bool) := (impl_StoreOk.f k l0).bind fun t172 => (if t172 = true then ((impl_pointsOf.f k l0 a1 a2).bind fun t173 => ((slices_Clone_impl_Point_impl_Point.f t173).bind fun t176 => (some (t176, decide ((t176.length : Int) > 0))))) else (some (([] : List (S37)), false)))
theorem impl_SeriesOf.mono : ∀ a0 a1 a2 k, LeO (impl_SeriesOf.f k a0 a1 a2) (impl_SeriesOf.f (k + 1) a0 a1 a2) := by
 intro a0 a1 a2 k
 unfold impl_SeriesOf.f
 repeat' first
  | (with_reducible exact impl_StoreOk.mono _ _)
  | (with_reducible exact impl_pointsOf.mono _ _ _ _)
  | (with_reducible exact LeO.refl _)
  | (with_reducible exact LeO.none _)
  | (with_reducible refine LeO.ite ?_ ?_)
  | (with_reducible refine LeO.bind ?_ (fun _ => ?_))
  | exact impl_StoreOk.mono _ _
  | exact impl_pointsOf.mono _ _ _ _
  | exact LeO.none _
  | refine LeO.ite ?_ ?_
  | refine LeO.bind ?_ (fun _ => ?_)
set_option maxHeartbeats 8000000 in
set_option maxRecDepth 100000 in
theorem impl_SeriesOf.calls (k : Nat) (A0 : Option Addr) (c0 : Nat) (l0 : List (S84)) (a1 : ByteArray) (a2 : ByteArray) (r1 : List (S37)) (r2 : Bool) (w : World) (hr0 : Kd.C k84 w A0 l0.length l0) (hc0 : l0.length ≤ c0) (h : impl_SeriesOf.f k l0 a1 a2 = some (r1, r2)) :
 Calls Try.prog 16 #[.slice A0 l0.length c0, .string a1, .string a2] w fun e w' => ∃ v0_ : Value, e = .returned (.tuple #[v0_, .bool r2]) ∧ Kd.R k37 37 w' w.heap.size (fun _ => True) v0_ r1 ∧ Below w.heap.size w w' := by
 have HR0 := Aside0.mk hr0
 have HC0 := Aside0.mk hc0
 clear hr0 hc0
 have HB := Aside0.mk (Below.refl w.heap.size w)
 have H : ((impl_StoreOk.f k l0).bind fun t172 => (if t172 = true then ((impl_pointsOf.f k l0 a1 a2).bind fun t173 => ((slices_Clone_impl_Point_impl_Point.f t173).bind fun t176 => (some (t176, decide ((t176.length : Int) > 0))))) else (some (([] : List (S37)), false)))) = some (r1, r2) := h
 clear h
 replace H := Option.bind_eq_some_iff.mp H
 obtain ⟨t172, A40, H⟩ := H
 replace H : (if t172 = true then ((impl_pointsOf.f k l0 a1 a2).bind fun t173 => ((slices_Clone_impl_Point_impl_Point.f t173).bind fun t176 => (some (t176, decide ((t176.length : Int) > 0))))) else (some (([] : List (S37)), false))) = some (r1, r2) := H
 have A4 := Aside0.mk A40
 clear A40
 by_cases c5 : t172 = true
 · subst c5
   have H1 : ((impl_pointsOf.f k l0 a1 a2).bind fun t173 => ((slices_Clone_impl_Point_impl_Point.f t173).bind fun t176 => (some (t176, decide ((t176.length : Int) > 0))))) = some (r1, r2) := by rw [if_pos rfl] at H; exact H
   clear H
   have H := H1
   clear H1
   replace H := Option.bind_eq_some_iff.mp H
   obtain ⟨t173, A60, H⟩ := H
   replace H : ((slices_Clone_impl_Point_impl_Point.f t173).bind fun t176 => (some (t176, decide ((t176.length : Int) > 0)))) = some (r1, r2) := H
   have A6 := Aside0.mk A60
   clear A60
   replace H := Option.bind_eq_some_iff.mp H
   obtain ⟨t176, A70, H⟩ := H
   replace H : (some (t176, decide ((t176.length : Int) > 0))) = some (r1, r2) := H
   have A7 := Aside0.mk A70
   clear A70
   simp only [Option.some.injEq, Prod.mk.injEq] at H
   obtain ⟨rfl, rfl⟩ := H
   go_enter Try.func16, Try.ntmps16
   go_wp2_with (first | ((with_reducible refine gate_callee (f := 52) rfl ?_); refine goesL_ (some 10) rfl rfl Try.func52 (by kernel_rfl) rfl #[.slice A0 l0.length c0] rfl (by (try simp only [List.map_toArray, List.map_cons, List.map_nil]); first | done | rfl | (simp only [List.length_drop, List.length_take]; rfl)) ?_; (with_reducible refine (impl_StoreOk.calls k _ _ l0 true _ ?side1 ?side2 A4.out).mono ?_); (case side1 => repeat (first | exact HR0.out | (with_reducible refine Kd.C_alloc ?_ _) | (with_reducible refine Kd.C_drewN ?_ _) | (with_reducible refine Kd.C_drew ?_))); (case side2 => exact HC0.out); rintro e w8 ⟨rfl, hb⟩; refine ⟨_, rfl, ?_⟩; have n0_ := Aside0.mk (below_step (by repeat (first | (with_reducible first | exact HB.out | apply below_alloc | apply pw_below_drewN | apply below_drew1) | exact HB.out)) hb); clear HB; have HB := n0_; clear n0_; (try clear hb); (try clear hb2); (try clear hk); (try clear hi)) | ((with_reducible refine gate_callee (f := 70) rfl ?_); refine goesL_ (some 15) rfl rfl Try.func70 (by kernel_rfl) rfl #[.slice A0 l0.length c0, .string a1, .string a2] rfl (by (try simp only [List.map_toArray, List.map_cons, List.map_nil]); first | done | rfl | (simp only [List.length_drop, List.length_take]; rfl)) ?_; (with_reducible refine (impl_pointsOf.calls k (fun k_ => k_ < w.heap.size) _ _ l0 a1 a2 t173 _ ?side1 A6.out).mono ?_); (case side1 => exact Kd.V_mk HC0.out (Kd.F_below (Kd.C_F k84_heap HR0.out) (by repeat (first | (with_reducible first | exact HB.out | apply below_alloc | apply pw_below_drewN | apply below_drew1) | exact HB.out)))); rintro e w9 ⟨v174, rfl, ho0, hb⟩; refine ⟨_, rfl, ?_⟩; have n0_ := Aside0.mk (Kd.V_lower (Kd.V_mono (ok' := fun k_ => True) ho0 (fun k_ hk_ => trivial)) (below_size (by repeat (first | (with_reducible first | exact HB.out | apply below_alloc | apply pw_below_drewN | apply below_drew1) | exact HB.out)))); have n1_ := Aside0.mk (below_step (by repeat (first | (with_reducible first | exact HB.out | apply below_alloc | apply pw_below_drewN | apply below_drew1) | exact HB.out)) hb); clear HB; have HO175 := n0_; have HB := n1_; clear n0_ n1_; (try clear hb); (try clear hb2); (try clear hk); (try clear hi); (try clear ho0); obtain ⟨Ao10, co10, eo10⟩ := Kd.V_slice HO175.out; subst eo10) | ((with_reducible refine gate_callee (f := 69) rfl ?_); refine goesL_ (some 16) rfl rfl Try.func69 (by kernel_rfl) rfl #[.slice Ao10 t173.length co10] rfl (by (try simp only [List.map_toArray, List.map_cons, List.map_nil]); first | done | rfl | (simp only [List.length_drop, List.length_take]; rfl)) ?_; (with_reducible refine (slices_Clone_impl_Point_impl_Point.calls _ _ t173 t176 _ ?side1 ?side2 A7.out).mono ?_); (case side1 => repeat (first | exact (Kd.V_reads' HO175.out).2.2 | (with_reducible refine Kd.C_alloc ?_ _) | (with_reducible refine Kd.C_drewN ?_ _) | (with_reducible refine Kd.C_drew ?_))); (case side2 => exact (Kd.V_reads' HO175.out).2.1); rintro e w11 ⟨v177, rfl, ho0, hb⟩; refine ⟨_, rfl, ?_⟩; have n0_ := Aside0.mk (Kd.V_elder' (by (with_reducible repeat (first | apply Kd.V_alloc | apply Kd.V_drewN | apply Kd.V_drew)); exact HO175.out) (Kd.R_base ho0) hb); have n1_ := Aside0.mk (Kd.R_lower ho0 (below_size (by repeat (first | (with_reducible first | exact HB.out | apply below_alloc | apply pw_below_drewN | apply below_drew1) | exact HB.out)))); have n2_ := Aside0.mk (below_step (by repeat (first | (with_reducible first | exact HB.out | apply below_alloc | apply pw_below_drewN | apply below_drew1) | exact HB.out)) hb); clear HO175; clear HB; have HO175 := n0_; have HO178 := n1_; have HB := n2_; clear n0_ n1_ n2_; (try clear hb); (try clear hb2); (try clear hk); (try clear hi); (try clear ho0); obtain ⟨Ao12, co12, eo12⟩ := Kd.R_slice HO178.out; subst eo12))
   go_ret2
   exact ⟨_, by first | rfl | (simp [errW_none, errW_some] <;> rfl) | (simp [*, errW_none, errW_some] <;> rfl), by (with_reducible repeat (first | apply Kd.R_alloc | apply Kd.R_drewN | apply Kd.R_drew)); exact HO178.out, by repeat (first | (with_reducible first | exact HB.out | apply below_alloc | apply pw_below_drewN | apply below_drew1) | exact HB.out)⟩
 · replace c5 := Bool.eq_false_iff.mpr c5
   subst c5
   have H1 : (some (([] : List (S37)), false)) = some (r1, r2) := by rw [if_neg (show ¬ (false = true) by decide)] at H; exact H
   clear H
   have H := H1
   clear H1
   simp only [Option.some.injEq, Prod.mk.injEq] at H
   obtain ⟨rfl, rfl⟩ := H
   go_enter Try.func16, Try.ntmps16
   go_wp2_with (first | ((with_reducible refine gate_callee (f := 52) rfl ?_); refine goesL_ (some 10) rfl rfl Try.func52 (by kernel_rfl) rfl #[.slice A0 l0.length c0] rfl (by (try simp only [List.map_toArray, List.map_cons, List.map_nil]); first | done | rfl | (simp only [List.length_drop, List.length_take]; rfl)) ?_; (with_reducible refine (impl_StoreOk.calls k _ _ l0 false _ ?side1 ?side2 A4.out).mono ?_); (case side1 => repeat (first | exact HR0.out | (with_reducible refine Kd.C_alloc ?_ _) | (with_reducible refine Kd.C_drewN ?_ _) | (with_reducible refine Kd.C_drew ?_))); (case side2 => exact HC0.out); rintro e w13 ⟨rfl, hb⟩; refine ⟨_, rfl, ?_⟩; have n0_ := Aside0.mk (below_step (by repeat (first | (with_reducible first | exact HB.out | apply below_alloc | apply pw_below_drewN | apply below_drew1) | exact HB.out)) hb); clear HB; have HB := n0_; clear n0_; (try clear hb); (try clear hb2); (try clear hk); (try clear hi)))
   go_ret2
   exact ⟨_, by first | rfl | (simp [errW_none, errW_some] <;> rfl) | (simp [*, errW_none, errW_some] <;> rfl), by first | exact Kd.R_nil _ _ _ _ _ | exact Kd.N_nil _ _ _ _ _ | exact Kd.V_nil _ _ _ _ _ | exact Kd.Q_nil _ _ _ _ _ | exact Kd.S_nil _ _ _ _ _, by repeat (first | (with_reducible first | exact HB.out | apply below_alloc | apply pw_below_drewN | apply below_drew1) | exact HB.out)⟩

end Go.Proofs.Ytklbbgilfahjhaa.Q
namespace Go.Proofs.Ytklbbgilfahjhaa.Q
open Go.RowKit Go.Proofs.YtklbbgilfahjhaaW.PrintWords Go.Proofs.YtklbbgilfahjhaaW.PrintLast Go.Proofs.YtklbbgilfahjhaaW.PrintMore
attribute [local go_sem] max2_int min2_int max_two min_two max_three min_three max_four min_four   -- for this text's walks alone
set_option linter.unusedVariables false
set_option linter.unusedSimpArgs false

/-! ### impl_isValue: function 162 -/
def impl_isValue.f (a0 : Int) : Option (Bool) := (impl_in.f a0 (-1000000000) 1000000000).bind fun t358 => (some t358)
set_option maxHeartbeats 8000000 in
set_option maxRecDepth 100000 in
theorem impl_isValue.calls (a0 : Int) (r : Bool) (w : World) (h : impl_isValue.f a0 = some r) :
 Calls Try.prog 162 #[.int .i64 a0] w fun e w' => e = .returned (.bool r) ∧ Drawn0 w w' := by
 have H : ((impl_in.f a0 (-1000000000) 1000000000).bind fun t358 => (some t358)) = some r := h
 clear h
 replace H := Option.bind_eq_some_iff.mp H
 obtain ⟨t358, A20, H⟩ := H
 replace H : (some t358) = some r := H
 have A2 := Aside0.mk A20
 clear A20
 obtain rfl := Option.some.inj H
 go_enter Try.func162, Try.ntmps162
 go_wp2_with (first | ((with_reducible refine gate_callee (f := 128) rfl ?_); refine goesL_ (some 4) rfl rfl Try.func128 (by kernel_rfl) rfl #[.int .i64 a0, .int .i64 (-1000000000), .int .i64 1000000000] rfl (by (try simp only [List.map_toArray, List.map_cons, List.map_nil]); first | done | rfl | (simp only [List.length_drop, List.length_take]; rfl)) ?_; (with_reducible refine (impl_in.calls a0 (-1000000000) 1000000000 t358 _ A2.out).mono ?_); rintro e w' ⟨rfl, ⟨nd, rfl⟩⟩; refine ⟨_, rfl, ?_⟩))
 go_ret
 exact ⟨by first | rfl | (simp; done) | (simp [*]; done), by repeat (first | exact Drawn0.refl _ | apply Drawn0.step)⟩

end Go.Proofs.Ytklbbgilfahjhaa.Q
namespace Go.Proofs.Ytklbbgilfahjhaa.Q
open Go.RowKit Go.Proofs.YtklbbgilfahjhaaW.PrintWords Go.Proofs.YtklbbgilfahjhaaW.PrintLast Go.Proofs.YtklbbgilfahjhaaW.PrintMore
attribute [local go_sem] max2_int min2_int max_two min_two max_three min_three max_four min_four   -- for this text's walks alone
set_option linter.unusedVariables false
set_option linter.unusedSimpArgs false

/-! ### impl_CutValue: function 163 -/
def impl_CutValue.f (a0 : Int) : Option (Int × Bool) := some (mn (mx a0 (-1000000000)) 1000000000, ((mn (mx a0 (-1000000000)) 1000000000) != a0))
set_option maxHeartbeats 8000000 in
set_option maxRecDepth 100000 in
theorem impl_CutValue.calls (a0 : Int) (r1 : Int) (r2 : Bool) (w : World) (h : impl_CutValue.f a0 = some (r1, r2)) :
 Calls Try.prog 163 #[.int .i64 a0] w fun e w' => e = .returned (.tuple #[.int .i64 r1, .bool r2]) ∧ Below w.heap.size w w' := by
 have HB := Aside0.mk (Below.refl w.heap.size w)
 have H : (some (mn (mx a0 (-1000000000)) 1000000000, ((mn (mx a0 (-1000000000)) 1000000000) != a0))) = some (r1, r2) := h
 clear h
 obtain ⟨ji2, hji2⟩ : ∃ j_ : Int, (mx a0 (-1000000000)) = j_ := ⟨_, rfl⟩
 replace H : (some (mn (ji2) 1000000000, ((mn (ji2) 1000000000) != a0))) = some (r1, r2) := by first | (rw [hji2] at H; exact H) | (simp only [hji2] at H ⊢; exact H)
 have hji2_ : (if a0 < (-1000000000) then (-1000000000) else a0) = ji2 := hji2
 obtain ⟨ji3, hji3⟩ : ∃ j_ : Int, (mn (ji2) 1000000000) = j_ := ⟨_, rfl⟩
 replace H : (some (ji3, ((ji3) != a0))) = some (r1, r2) := by first | (rw [hji3] at H; exact H) | (simp only [hji3] at H ⊢; exact H)
 have hji3_ : (if 1000000000 < (ji2) then 1000000000 else (ji2)) = ji3 := hji3
 simp only [Option.some.injEq, Prod.mk.injEq] at H
 obtain ⟨rfl, rfl⟩ := H
 go_enter Try.func163, Try.ntmps163
 go_wp2
 go_ret2
 exact ⟨by first | rfl | (simp [errW_none, errW_some] <;> rfl) | (simp only [← hji2, ← hji3]; first | rfl | (simp [errW_none, errW_some] <;> rfl)) | (simp [*, errW_none, errW_some] <;> rfl), by repeat (first | (with_reducible first | exact HB.out | apply below_alloc | apply pw_below_drewN | apply below_drew1) | exact HB.out)⟩

end Go.Proofs.Ytklbbgilfahjhaa.Q
namespace Go.Proofs.Ytklbbgilfahjhaa.Q
open Go.RowKit Go.Proofs.YtklbbgilfahjhaaW.PrintWords Go.Proofs.YtklbbgilfahjhaaW.PrintLast Go.Proofs.YtklbbgilfahjhaaW.PrintMore
attribute [local go_sem] max2_int min2_int max_two min_two max_three min_three max_four min_four   -- for this text's walks alone
set_option linter.unusedVariables false
set_option linter.unusedSimpArgs false

/-! ### impl_AddValues: function 110 -/
def impl_AddValues.l0 : Nat → Int → Bool → List Int → Int → Int → Option (Int × Bool)
 | 0, _, _, _, _, _ => none
 | k + 1, x4, x5, x13, x14, x15 => if x15 < x14 then (if 0 ≤ x15 then (if x15 < (x13.length : Int) then ((impl_isValue.f (rd x13 x15)).bind fun t360 => (if t360 = true then ((impl_CutValue.f (wrap64 (x4 + (rd x13 x15)))).bind fun bt361 => (if x5 = true then (impl_AddValues.l0 k bt361.1 true x13 x14 (wrap64 (x15 + 1))) else (impl_AddValues.l0 k bt361.1 bt361.2 x13 x14 (wrap64 (x15 + 1))))) else (some (0, true)))) else (none)) else (none)) else (some (x4, x5))
def impl_AddValues.f (k : Nat) (l0 : List Int) : Option (Int × Bool) := if (l0.length : Int) > 300 then (some (0, true)) else (impl_AddValues.l0 k 0 false l0 (l0.length : Int) 0)
theorem impl_AddValues.mono_l : ∀ k, (∀ y0 y1 y2 y3 y4, LeO (impl_AddValues.l0 k y0 y1 y2 y3 y4) (impl_AddValues.l0 (k + 1) y0 y1 y2 y3 y4))
 | 0 => fun _ _ _ _ _ r h => by simp [impl_AddValues.l0] at h
 | k + 1 => by
  have ih0 := impl_AddValues.mono_l k
  · intro y0 y1 y2 y3 y4
    unfold impl_AddValues.l0
    repeat' first
    | (with_reducible exact ih0 _ _ _ _ _)
    | (with_reducible exact LeO.refl _)
    | (with_reducible exact LeO.none _)
    | (with_reducible refine LeO.ite ?_ ?_)
    | (with_reducible refine LeO.bind ?_ (fun _ => ?_))
    | exact ih0 _ _ _ _ _
    | exact LeO.none _
    | refine LeO.ite ?_ ?_
    | refine LeO.bind ?_ (fun _ => ?_)
theorem impl_AddValues.mono : ∀ a0 k, LeO (impl_AddValues.f k a0) (impl_AddValues.f (k + 1) a0) := by
 intro a0 k
 have ih0 := impl_AddValues.mono_l k
 unfold impl_AddValues.f
 repeat' first
  | (with_reducible exact ih0 _ _ _ _ _)
  | (with_reducible exact LeO.refl _)
  | (with_reducible exact LeO.none _)
  | (with_reducible refine LeO.ite ?_ ?_)
  | (with_reducible refine LeO.bind ?_ (fun _ => ?_))
  | exact ih0 _ _ _ _ _
  | exact LeO.none _
  | refine LeO.ite ?_ ?_
  | refine LeO.bind ?_ (fun _ => ?_)
set_option maxHeartbeats 8000000 in
set_option maxRecDepth 100000 in
theorem impl_AddValues.calls (k : Nat) (A0 : Option Addr) (c0 : Nat) (l0 : List Int) (r1 : Int) (r2 : Bool) (w : World) (hr0 : Kd.C (Kd.int .i64) w A0 l0.length l0) (hc0 : l0.length ≤ c0) (h : impl_AddValues.f k l0 = some (r1, r2)) :
 Calls Try.prog 110 #[.slice A0 l0.length c0] w fun e w' => e = .returned (.tuple #[.int .i64 r1, .bool r2]) ∧ Below w.heap.size w w' := by
 have HR0 := Aside0.mk hr0
 have HC0 := Aside0.mk hc0
 clear hr0 hc0
 have HB := Aside0.mk (Below.refl w.heap.size w)
 have H : (if (l0.length : Int) > 300 then (some (0, true)) else (impl_AddValues.l0 k 0 false l0 (l0.length : Int) 0)) = some (r1, r2) := h
 clear h
 by_cases c2 : (l0.length : Int) > 300
 · rw [if_pos c2] at H
   have c2b0 : decide (300 < (l0.length : Int)) = true := decide_eq_true c2
   have c2b1 : decide (300 < l0.length) = true := decide_eq_true (by omega)
   clear c2
   simp only [Option.some.injEq, Prod.mk.injEq] at H
   obtain ⟨rfl, rfl⟩ := H
   go_enter Try.func110, Try.ntmps110
   go_wp2
   go_ret2
   exact ⟨by first | rfl | (simp [errW_none, errW_some] <;> rfl) | (simp [*, errW_none, errW_some] <;> rfl), by repeat (first | (with_reducible first | exact HB.out | apply below_alloc | apply pw_below_drewN | apply below_drew1) | exact HB.out)⟩
 · rw [if_neg c2] at H
   have c2b0 : decide (300 < (l0.length : Int)) = false := decide_eq_false c2
   have c2b1 : decide (300 < l0.length) = false := decide_eq_false (by omega)
   clear c2
   have H' := Aside0.mk H
   clear H
   go_enter Try.func110, Try.ntmps110
   go_wp2
   go_loopg [4, 5, 15] k (fun kq v4 v5 v15 w' => ∃ (x4_1 : Int) (x5_1 : Bool) (x15_1 : Int), v4 = .int .i64 x4_1 ∧ v5 = .bool x5_1 ∧ v15 = .int .i64 x15_1 ∧ Aside0 (impl_AddValues.l0 kq x4_1 x5_1 l0 (l0.length : Int) x15_1 = some (r1, r2)) ∧ Aside0 (kq ≤ k) ∧ Aside0 (Below w.heap.size w w'))
   case atStart => exact ⟨(0), (false), (0), (by first | rfl | (simp; done) | (simp [*]; done)), (by first | rfl | (simp; done) | (simp [*]; done)), (by first | rfl | (simp; done) | (simp [*]; done)), H', ⟨Nat.le_refl _⟩, ⟨by repeat (first | (with_reducible first | exact HB.out | apply below_alloc | apply pw_below_drewN | apply below_drew1) | exact HB.out)⟩⟩
   case round =>
    clear H'
    try clear c1
    try clear c2
    try clear c2b0
    try clear c2b1
    try clear p2
    obtain ⟨x4_1, x5_1, x15_1, rfl, rfl, rfl, HA, HK1, HB⟩ := hrel
    cases gk with
    | zero => exact absurd HA.out (by simp [impl_AddValues.l0])
    | succ k1 =>
     have H := HA.out
     clear HA
     simp only [impl_AddValues.l0] at H
     by_cases c3 : x15_1 < (l0.length : Int)
     · rw [if_pos c3] at H
       have c3b0 : decide (x15_1 < (l0.length : Int)) = true := decide_eq_true c3
       clear c3
       by_cases c4 : 0 ≤ x15_1
       · rw [if_pos c4] at H
         have c4b0 : decide (0 ≤ x15_1) = true := decide_eq_true c4
         clear c4
         by_cases c5 : x15_1 < (l0.length : Int)
         · rw [if_pos c5] at H
           have c5b0 : decide (x15_1 < (l0.length : Int)) = true := decide_eq_true c5
           clear c5
           replace H := Option.bind_eq_some_iff.mp H
           obtain ⟨t360, A60, H⟩ := H
           replace H : (if t360 = true then ((impl_CutValue.f (wrap64 (x4_1 + (rd l0 x15_1)))).bind fun bt361 => (if x5_1 = true then (impl_AddValues.l0 k1 bt361.1 true l0 (l0.length : Int) (wrap64 (x15_1 + 1))) else (impl_AddValues.l0 k1 bt361.1 bt361.2 l0 (l0.length : Int) (wrap64 (x15_1 + 1))))) else (some (0, true))) = some (r1, r2) := H
           have A6 := Aside0.mk A60
           clear A60
           by_cases c7 : t360 = true
           · subst c7
             have H1 : ((impl_CutValue.f (wrap64 (x4_1 + (rd l0 x15_1)))).bind fun bt361 => (if x5_1 = true then (impl_AddValues.l0 k1 bt361.1 true l0 (l0.length : Int) (wrap64 (x15_1 + 1))) else (impl_AddValues.l0 k1 bt361.1 bt361.2 l0 (l0.length : Int) (wrap64 (x15_1 + 1))))) = some (r1, r2) := by rw [if_pos rfl] at H; exact H
             clear H
             have H := H1
             clear H1
             replace H := Option.bind_eq_some_iff.mp H
             obtain ⟨⟨t361, t362⟩, A80, H⟩ := H
             replace H : (if x5_1 = true then (impl_AddValues.l0 k1 t361 true l0 (l0.length : Int) (wrap64 (x15_1 + 1))) else (impl_AddValues.l0 k1 t361 t362 l0 (l0.length : Int) (wrap64 (x15_1 + 1)))) = some (r1, r2) := H
             have A8 := Aside0.mk A80
             clear A80
             by_cases c9 : x5_1 = true
             · subst c9
               have H1 : (impl_AddValues.l0 k1 t361 true l0 (l0.length : Int) (wrap64 (x15_1 + 1))) = some (r1, r2) := by rw [if_pos rfl] at H; exact H
               clear H
               have H := H1
               clear H1
               have H' := Aside0.mk H
               clear H
               have p359 : 0 ≤ (x15_1 : Int) := of_decide_eq_true (by first | (with_reducible assumption) | assumption)
               have q359 : x15_1 < (l0.length : Int) := of_decide_eq_true (by first | (with_reducible assumption) | assumption)
               obtain ⟨ad359, e359, hx359_0⟩ := Kd.at_int HR0.out x15_1 p359 q359
               cases e359
               replace hx359_0 := (HB.out.cell (World.block_lt_of_cell? w _ hx359_0)).trans hx359_0
               replace p359 := eq_true p359
               replace q359 := eq_true q359
               go_wp2_with (first | ((with_reducible refine gate_callee (f := 162) rfl ?_); refine goesL_ (some 20) rfl rfl Try.func162 (by kernel_rfl) rfl #[.int .i64 (rd l0 x15_1)] rfl (by (try simp only [List.map_toArray, List.map_cons, List.map_nil]); first | done | rfl | (simp only [List.length_drop, List.length_take]; rfl)) ?_; (with_reducible refine (impl_isValue.calls (rd l0 x15_1) true _ A6.out).mono ?_); rintro e w' ⟨rfl, ⟨nd, rfl⟩⟩; refine ⟨_, rfl, ?_⟩) | ((with_reducible refine gate_callee (f := 163) rfl ?_); refine goesL_ (some 26) rfl rfl Try.func163 (by kernel_rfl) rfl #[.int .i64 (wrap64 (x4_1 + (rd l0 x15_1)))] rfl (by (try simp only [List.map_toArray, List.map_cons, List.map_nil]); first | done | rfl | (simp only [List.length_drop, List.length_take]; rfl)) ?_; (with_reducible refine (impl_CutValue.calls (wrap64 (x4_1 + (rd l0 x15_1))) t361 t362 _ A8.out).mono ?_); rintro e w10 ⟨rfl, hb⟩; refine ⟨_, rfl, ?_⟩; have n0_ := Aside0.mk (below_step (by repeat (first | (with_reducible first | exact HB.out | apply below_alloc | apply pw_below_drewN | apply below_drew1) | exact HB.out)) hb); clear HB; have HB := n0_; clear n0_; (try clear hb); (try clear hb2); (try clear hk); (try clear hi)))
               go_roundg k1
               case measure => have := HK1.out; omega
               case rel => exact ⟨(t361), (true), (wrap64 (x15_1 + 1)), (by first | rfl | (simp; done) | (simp [*]; done)), (by first | rfl | (simp; done) | (simp [*]; done)), (by first | rfl | (simp; done) | (simp [*]; done)), H', ⟨by have := HK1.out; omega⟩, ⟨by repeat (first | (with_reducible first | exact HB.out | apply below_alloc | apply pw_below_drewN | apply below_drew1) | exact HB.out)⟩⟩
             · replace c9 := Bool.eq_false_iff.mpr c9
               subst c9
               have H1 : (impl_AddValues.l0 k1 t361 t362 l0 (l0.length : Int) (wrap64 (x15_1 + 1))) = some (r1, r2) := by rw [if_neg (show ¬ (false = true) by decide)] at H; exact H
               clear H
               have H := H1
               clear H1
               have H' := Aside0.mk H
               clear H
               have p359 : 0 ≤ (x15_1 : Int) := of_decide_eq_true (by first | (with_reducible assumption) | assumption)
               have q359 : x15_1 < (l0.length : Int) := of_decide_eq_true (by first | (with_reducible assumption) | assumption)
               obtain ⟨ad359, e359, hx359_0⟩ := Kd.at_int HR0.out x15_1 p359 q359
               cases e359
               replace hx359_0 := (HB.out.cell (World.block_lt_of_cell? w _ hx359_0)).trans hx359_0
               replace p359 := eq_true p359
               replace q359 := eq_true q359
               go_wp2_with (first | ((with_reducible refine gate_callee (f := 162) rfl ?_); refine goesL_ (some 20) rfl rfl Try.func162 (by kernel_rfl) rfl #[.int .i64 (rd l0 x15_1)] rfl (by (try simp only [List.map_toArray, List.map_cons, List.map_nil]); first | done | rfl | (simp only [List.length_drop, List.length_take]; rfl)) ?_; (with_reducible refine (impl_isValue.calls (rd l0 x15_1) true _ A6.out).mono ?_); rintro e w' ⟨rfl, ⟨nd, rfl⟩⟩; refine ⟨_, rfl, ?_⟩) | ((with_reducible refine gate_callee (f := 163) rfl ?_); refine goesL_ (some 26) rfl rfl Try.func163 (by kernel_rfl) rfl #[.int .i64 (wrap64 (x4_1 + (rd l0 x15_1)))] rfl (by (try simp only [List.map_toArray, List.map_cons, List.map_nil]); first | done | rfl | (simp only [List.length_drop, List.length_take]; rfl)) ?_; (with_reducible refine (impl_CutValue.calls (wrap64 (x4_1 + (rd l0 x15_1))) t361 t362 _ A8.out).mono ?_); rintro e w11 ⟨rfl, hb⟩; refine ⟨_, rfl, ?_⟩; have n0_ := Aside0.mk (below_step (by repeat (first | (with_reducible first | exact HB.out | apply below_alloc | apply pw_below_drewN | apply below_drew1) | exact HB.out)) hb); clear HB; have HB := n0_; clear n0_; (try clear hb); (try clear hb2); (try clear hk); (try clear hi)))
               go_roundg k1
               case measure => have := HK1.out; omega
               case rel => exact ⟨(t361), (t362), (wrap64 (x15_1 + 1)), (by first | rfl | (simp; done) | (simp [*]; done)), (by first | rfl | (simp; done) | (simp [*]; done)), (by first | rfl | (simp; done) | (simp [*]; done)), H', ⟨by have := HK1.out; omega⟩, ⟨by repeat (first | (with_reducible first | exact HB.out | apply below_alloc | apply pw_below_drewN | apply below_drew1) | exact HB.out)⟩⟩
           · replace c7 := Bool.eq_false_iff.mpr c7
             subst c7
             have H1 : (some (0, true)) = some (r1, r2) := by rw [if_neg (show ¬ (false = true) by decide)] at H; exact H
             clear H
             have H := H1
             clear H1
             simp only [Option.some.injEq, Prod.mk.injEq] at H
             obtain ⟨rfl, rfl⟩ := H
             have p359 : 0 ≤ (x15_1 : Int) := of_decide_eq_true (by first | (with_reducible assumption) | assumption)
             have q359 : x15_1 < (l0.length : Int) := of_decide_eq_true (by first | (with_reducible assumption) | assumption)
             obtain ⟨ad359, e359, hx359_0⟩ := Kd.at_int HR0.out x15_1 p359 q359
             cases e359
             replace hx359_0 := (HB.out.cell (World.block_lt_of_cell? w _ hx359_0)).trans hx359_0
             replace p359 := eq_true p359
             replace q359 := eq_true q359
             go_wp2_with (first | ((with_reducible refine gate_callee (f := 162) rfl ?_); refine goesL_ (some 20) rfl rfl Try.func162 (by kernel_rfl) rfl #[.int .i64 (rd l0 x15_1)] rfl (by (try simp only [List.map_toArray, List.map_cons, List.map_nil]); first | done | rfl | (simp only [List.length_drop, List.length_take]; rfl)) ?_; (with_reducible refine (impl_isValue.calls (rd l0 x15_1) false _ A6.out).mono ?_); rintro e w' ⟨rfl, ⟨nd, rfl⟩⟩; refine ⟨_, rfl, ?_⟩))
             go_ret2
             exact ⟨by first | rfl | (simp [errW_none, errW_some] <;> rfl) | (simp [*, errW_none, errW_some] <;> rfl), by repeat (first | (with_reducible first | exact HB.out | apply below_alloc | apply pw_below_drewN | apply below_drew1) | exact HB.out)⟩
         · rw [if_neg c5] at H
           exact absurd H (by simp)
       · rw [if_neg c4] at H
         exact absurd H (by simp)
     · rw [if_neg c3] at H
       have c3b0 : decide (x15_1 < (l0.length : Int)) = false := decide_eq_false c3
       clear c3
       simp only [Option.some.injEq, Prod.mk.injEq] at H
       obtain ⟨rfl, rfl⟩ := H
       go_wp2
       go_ret2
       exact ⟨by first | rfl | (simp [errW_none, errW_some] <;> rfl) | (simp [*, errW_none, errW_some] <;> rfl), by repeat (first | (with_reducible first | exact HB.out | apply below_alloc | apply pw_below_drewN | apply below_drew1) | exact HB.out)⟩

end Go.Proofs.Ytklbbgilfahjhaa.Q
namespace Go.Proofs.Ytklbbgilfahjhaa.Q
open Go.RowKit Go.Proofs.YtklbbgilfahjhaaW.PrintWords Go.Proofs.YtklbbgilfahjhaaW.PrintLast Go.Proofs.YtklbbgilfahjhaaW.PrintMore
attribute [local go_sem] max2_int min2_int max_two min_two max_three min_three max_four min_four   -- for this text's walks alone
set_option linter.unusedVariables false
set_option linter.unusedSimpArgs false

/-! ### impl_FloorDiv: function 142 -/
def impl_FloorDiv.f (a0 : Int) (a1 : Int) : Option (Int) := if a1 < 1 then (some 0) else (if a1 = 0 then (none) else (if (Int.tmod a0 a1) < 0 then (some (wrap64 ((wrap64 (Int.tdiv a0 a1)) - 1))) else (some (wrap64 (Int.tdiv a0 a1)))))
set_option maxHeartbeats 8000000 in
set_option maxRecDepth 100000 in
theorem impl_FloorDiv.calls (a0 : Int) (a1 : Int) (r : Int) (w : World) (h : impl_FloorDiv.f a0 a1 = some r) :
 Calls Try.prog 142 #[.int .i64 a0, .int .i64 a1] w fun e w' => e = .returned (.int .i64 r) ∧ Drawn0 w w' := by
 have H : (if a1 < 1 then (some 0) else (if a1 = 0 then (none) else (if (Int.tmod a0 a1) < 0 then (some (wrap64 ((wrap64 (Int.tdiv a0 a1)) - 1))) else (some (wrap64 (Int.tdiv a0 a1)))))) = some r := h
 clear h
 by_cases c3 : a1 < 1
 · rw [if_pos c3] at H
   have c3b0 : decide (a1 < 1) = true := decide_eq_true c3
   clear c3
   obtain rfl := Option.some.inj H
   go_enter Try.func142, Try.ntmps142
   go_wp2
   go_ret
   exact ⟨by first | rfl | (simp; done) | (simp [*]; done), by repeat (first | exact Drawn0.refl _ | apply Drawn0.step)⟩
 · rw [if_neg c3] at H
   have c3b0 : decide (a1 < 1) = false := decide_eq_false c3
   clear c3
   by_cases c4 : a1 = 0
   · rw [if_pos c4] at H
     exact absurd H (by simp)
   · rw [if_neg c4] at H
     have c4b0 : (a1 == 0) = false := beq_eq_false_iff_ne.mpr c4
     have c4b1 : (a1 != 0) = true := bne_iff_ne.mpr c4
     by_cases c5 : (Int.tmod a0 a1) < 0
     · rw [if_pos c5] at H
       have c5b0 : decide ((Int.tmod a0 a1) < 0) = true := decide_eq_true c5
       clear c5
       obtain rfl := Option.some.inj H
       go_enter Try.func142, Try.ntmps142
       go_wp2
       go_ret
       exact ⟨by first | rfl | (simp; done) | (simp [*]; done), by repeat (first | exact Drawn0.refl _ | apply Drawn0.step)⟩
     · rw [if_neg c5] at H
       have c5b0 : decide ((Int.tmod a0 a1) < 0) = false := decide_eq_false c5
       clear c5
       obtain rfl := Option.some.inj H
       go_enter Try.func142, Try.ntmps142
       go_wp2
       go_ret
       exact ⟨by first | rfl | (simp; done) | (simp [*]; done), by repeat (first | exact Drawn0.refl _ | apply Drawn0.step)⟩

end Go.Proofs.Ytklbbgilfahjhaa.Q
namespace Go.Proofs.Ytklbbgilfahjhaa.Q
open Go.RowKit Go.Proofs.YtklbbgilfahjhaaW.PrintWords Go.Proofs.YtklbbgilfahjhaaW.PrintLast Go.Proofs.YtklbbgilfahjhaaW.PrintMore
attribute [local go_sem] max2_int min2_int max_two min_two max_three min_three max_four min_four   -- for this text's walks alone
set_option linter.unusedVariables false
set_option linter.unusedSimpArgs false

/-! ### impl_MeanOf: function 90 -/
def impl_MeanOf.f (k : Nat) (l0 : List Int) : Option (Int × Bool) := (impl_AddValues.f k l0).bind fun bt363 => (if (l0.length : Int) = 0 then (some (0, false)) else (if bt363.2 = true then (some (0, false)) else ((impl_FloorDiv.f bt363.1 (l0.length : Int)).bind fun t365 => (some (t365, true)))))
theorem impl_MeanOf.mono : ∀ a0 k, LeO (impl_MeanOf.f k a0) (impl_MeanOf.f (k + 1) a0) := by
 intro a0 k
 unfold impl_MeanOf.f
 repeat' first
  | (with_reducible exact impl_AddValues.mono _ _)
  | (with_reducible exact LeO.refl _)
  | (with_reducible exact LeO.none _)
  | (with_reducible refine LeO.ite ?_ ?_)
  | (with_reducible refine LeO.bind ?_ (fun _ => ?_))
  | exact impl_AddValues.mono _ _
  | exact LeO.none _
  | refine LeO.ite ?_ ?_
  | refine LeO.bind ?_ (fun _ => ?_)
set_option maxHeartbeats 8000000 in
set_option maxRecDepth 100000 in
theorem impl_MeanOf.calls (k : Nat) (A0 : Option Addr) (c0 : Nat) (l0 : List Int) (r1 : Int) (r2 : Bool) (w : World) (hr0 : Kd.C (Kd.int .i64) w A0 l0.length l0) (hc0 : l0.length ≤ c0) (h : impl_MeanOf.f k l0 = some (r1, r2)) :
 Calls Try.prog 90 #[.slice A0 l0.length c0] w fun e w' => e = .returned (.tuple #[.int .i64 r1, .bool r2]) ∧ Below w.heap.size w w' := by
 have HR0 := Aside0.mk hr0
 have HC0 := Aside0.mk hc0
 clear hr0 hc0
 have HB := Aside0.mk (Below.refl w.heap.size w)
 have H : ((impl_AddValues.f k l0).bind fun bt363 => (if (l0.length : Int) = 0 then (some (0, false)) else (if bt363.2 = true then (some (0, false)) else ((impl_FloorDiv.f bt363.1 (l0.length : Int)).bind fun t365 => (some (t365, true)))))) = some (r1, r2) := h
 clear h
 replace H := Option.bind_eq_some_iff.mp H
 obtain ⟨⟨t363, t364⟩, A20, H⟩ := H
 replace H : (if (l0.length : Int) = 0 then (some (0, false)) else (if t364 = true then (some (0, false)) else ((impl_FloorDiv.f t363 (l0.length : Int)).bind fun t365 => (some (t365, true))))) = some (r1, r2) := H
 have A2 := Aside0.mk A20
 clear A20
 by_cases c3 : (l0.length : Int) = 0
 · rw [if_pos c3] at H
   have c3b0 : ((l0.length : Int) == 0) = true := beq_iff_eq.mpr c3
   have c3b1 : ((l0.length : Int) != 0) = false := bne_eq_false_iff_eq.mpr c3
   clear c3
   simp only [Option.some.injEq, Prod.mk.injEq] at H
   obtain ⟨rfl, rfl⟩ := H
   go_enter Try.func90, Try.ntmps90
   go_wp2_with (first | ((with_reducible refine gate_callee (f := 110) rfl ?_); refine goesL_ (some 8) rfl rfl Try.func110 (by kernel_rfl) rfl #[.slice A0 l0.length c0] rfl (by (try simp only [List.map_toArray, List.map_cons, List.map_nil]); first | done | rfl | (simp only [List.length_drop, List.length_take]; rfl)) ?_; (with_reducible refine (impl_AddValues.calls k _ _ l0 t363 t364 _ ?side1 ?side2 A2.out).mono ?_); (case side1 => repeat (first | exact HR0.out | (with_reducible refine Kd.C_alloc ?_ _) | (with_reducible refine Kd.C_drewN ?_ _) | (with_reducible refine Kd.C_drew ?_))); (case side2 => exact HC0.out); rintro e w4 ⟨rfl, hb⟩; refine ⟨_, rfl, ?_⟩; have n0_ := Aside0.mk (below_step (by repeat (first | (with_reducible first | exact HB.out | apply below_alloc | apply pw_below_drewN | apply below_drew1) | exact HB.out)) hb); clear HB; have HB := n0_; clear n0_; (try clear hb); (try clear hb2); (try clear hk); (try clear hi)))
   go_ret2
   exact ⟨by first | rfl | (simp [errW_none, errW_some] <;> rfl) | (simp [*, errW_none, errW_some] <;> rfl), by repeat (first | (with_reducible first | exact HB.out | apply below_alloc | apply pw_below_drewN | apply below_drew1) | exact HB.out)⟩
 · rw [if_neg c3] at H
   have c3b0 : ((l0.length : Int) == 0) = false := beq_eq_false_iff_ne.mpr c3
   have c3b1 : ((l0.length : Int) != 0) = true := bne_iff_ne.mpr c3
   have c3b2 : ¬ (l0 = []) := fun h_ => c3 (by rw [h_]; rfl)
   by_cases c5 : t364 = true
   · subst c5
     have H1 : (some (0, false)) = some (r1, r2) := by rw [if_pos rfl] at H; exact H
     clear H
     have H := H1
     clear H1
     simp only [Option.some.injEq, Prod.mk.injEq] at H
     obtain ⟨rfl, rfl⟩ := H
     go_enter Try.func90, Try.ntmps90
     go_wp2_with (first | ((with_reducible refine gate_callee (f := 110) rfl ?_); refine goesL_ (some 8) rfl rfl Try.func110 (by kernel_rfl) rfl #[.slice A0 l0.length c0] rfl (by (try simp only [List.map_toArray, List.map_cons, List.map_nil]); first | done | rfl | (simp only [List.length_drop, List.length_take]; rfl)) ?_; (with_reducible refine (impl_AddValues.calls k _ _ l0 t363 true _ ?side1 ?side2 A2.out).mono ?_); (case side1 => repeat (first | exact HR0.out | (with_reducible refine Kd.C_alloc ?_ _) | (with_reducible refine Kd.C_drewN ?_ _) | (with_reducible refine Kd.C_drew ?_))); (case side2 => exact HC0.out); rintro e w6 ⟨rfl, hb⟩; refine ⟨_, rfl, ?_⟩; have n0_ := Aside0.mk (below_step (by repeat (first | (with_reducible first | exact HB.out | apply below_alloc | apply pw_below_drewN | apply below_drew1) | exact HB.out)) hb); clear HB; have HB := n0_; clear n0_; (try clear hb); (try clear hb2); (try clear hk); (try clear hi)))
     go_ret2
     exact ⟨by first | rfl | (simp [errW_none, errW_some] <;> rfl) | (simp [*, errW_none, errW_some] <;> rfl), by repeat (first | (with_reducible first | exact HB.out | apply below_alloc | apply pw_below_drewN | apply below_drew1) | exact HB.out)⟩
   · replace c5 := Bool.eq_false_iff.mpr c5
     subst c5
     have H1 : ((impl_FloorDiv.f t363 (l0.length : Int)).bind fun t365 => (some (t365, true))) = some (r1, r2) := by rw [if_neg (show ¬ (false = true) by decide)] at H; exact H
     clear H
     have H := H1
     clear H1
     replace H := Option.bind_eq_some_iff.mp H
     obtain ⟨t365, A70, H⟩ := H
     replace H : (some (t365, true)) = some (r1, r2) := H
     have A7 := Aside0.mk A70
     clear A70
     simp only [Option.some.injEq, Prod.mk.injEq] at H
     obtain ⟨rfl, rfl⟩ := H
     go_enter Try.func90, Try.ntmps90
     go_wp2_with (first | ((with_reducible refine gate_callee (f := 110) rfl ?_); refine goesL_ (some 8) rfl rfl Try.func110 (by kernel_rfl) rfl #[.slice A0 l0.length c0] rfl (by (try simp only [List.map_toArray, List.map_cons, List.map_nil]); first | done | rfl | (simp only [List.length_drop, List.length_take]; rfl)) ?_; (with_reducible refine (impl_AddValues.calls k _ _ l0 t363 false _ ?side1 ?side2 A2.out).mono ?_); (case side1 => repeat (first | exact HR0.out | (with_reducible refine Kd.C_alloc ?_ _) | (with_reducible refine Kd.C_drewN ?_ _) | (with_reducible refine Kd.C_drew ?_))); (case side2 => exact HC0.out); rintro e w8 ⟨rfl, hb⟩; refine ⟨_, rfl, ?_⟩; have n0_ := Aside0.mk (below_step (by repeat (first | (with_reducible first | exact HB.out | apply below_alloc | apply pw_below_drewN | apply below_drew1) | exact HB.out)) hb); clear HB; have HB := n0_; clear n0_; (try clear hb); (try clear hb2); (try clear hk); (try clear hi)) | ((with_reducible refine gate_callee (f := 142) rfl ?_); refine goesL_ (some 20) rfl rfl Try.func142 (by kernel_rfl) rfl #[.int .i64 t363, .int .i64 (l0.length : Int)] rfl (by (try simp only [List.map_toArray, List.map_cons, List.map_nil]); first | done | rfl | (simp only [List.length_drop, List.length_take]; rfl)) ?_; (with_reducible refine (impl_FloorDiv.calls t363 (l0.length : Int) t365 _ A7.out).mono ?_); rintro e w' ⟨rfl, ⟨nd, rfl⟩⟩; refine ⟨_, rfl, ?_⟩))
     go_ret2
     exact ⟨by first | rfl | (simp [errW_none, errW_some] <;> rfl) | (simp [*, errW_none, errW_some] <;> rfl), by repeat (first | (with_reducible first | exact HB.out | apply below_alloc | apply pw_below_drewN | apply below_drew1) | exact HB.out)⟩

end Go.Proofs.Ytklbbgilfahjhaa.Q
namespace Go.Proofs.Ytklbbgilfahjhaa.Q
open Go.RowKit Go.Proofs.YtklbbgilfahjhaaW.PrintWords Go.Proofs.YtklbbgilfahjhaaW.PrintLast Go.Proofs.YtklbbgilfahjhaaW.PrintMore
attribute [local go_sem] max2_int min2_int max_two min_two max_three min_three max_four min_four   -- for this text's walks alone
set_option linter.unusedVariables false
set_option linter.unusedSimpArgs false

/-! ### impl_AverageOf: function 29 -/
def impl_AverageOf.l0 : Nat → Int → Int → List Int → List (S37) → Int → Int → Option (Int × Bool)
 | 0, _, _, _, _, _, _ => none
 | k + 1, x3, x4, x14, x24, x25, x26 => if x26 < x25 then (if 0 ≤ x26 then (if x26 < (x24.length : Int) then (if ((rd_T37 x24 x26).f0) > x3 then (if ((rd_T37 x24 x26).f0) ≤ x4 then (if x14.length < 17592186044416 then (impl_AverageOf.l0 k x3 x4 (x14 ++ [(rd_T37 x24 x26).f1]) x24 x25 (wrap64 (x26 + 1))) else (none)) else (impl_AverageOf.l0 k x3 x4 x14 x24 x25 (wrap64 (x26 + 1)))) else (impl_AverageOf.l0 k x3 x4 x14 x24 x25 (wrap64 (x26 + 1)))) else (none)) else (none)) else ((impl_MeanOf.f k x14).bind fun bt375 => (some (bt375.1, bt375.2)))
def impl_AverageOf.f (k : Nat) (l0 : List (S84)) (a1 : ByteArray) (a2 : ByteArray) (a3 : Int) (a4 : Int) : Option (Int × Bool) := (impl_SeriesOf.f k l0 a1 a2).bind fun bt366 => (impl_AverageOf.l0 k a3 a4 ([] : List Int) bt366.1 (bt366.1.length : Int) 0)
theorem impl_AverageOf.mono_l : ∀ k, (∀ y0 y1 y2 y3 y4 y5, LeO (impl_AverageOf.l0 k y0 y1 y2 y3 y4 y5) (impl_AverageOf.l0 (k + 1) y0 y1 y2 y3 y4 y5))
 | 0 => fun _ _ _ _ _ _ r h => by simp [impl_AverageOf.l0] at h
 | k + 1 => by
  have ih0 := impl_AverageOf.mono_l k
  · intro y0 y1 y2 y3 y4 y5
    unfold impl_AverageOf.l0
    repeat' first
    | (with_reducible exact ih0 _ _ _ _ _ _)
    | (with_reducible exact impl_MeanOf.mono _ _)
    | (with_reducible exact impl_SeriesOf.mono _ _ _ _)
    | (with_reducible exact LeO.refl _)
    | (with_reducible exact LeO.none _)
    | (with_reducible refine LeO.ite ?_ ?_)
    | (with_reducible refine LeO.bind ?_ (fun _ => ?_))
    | exact ih0 _ _ _ _ _ _
    | exact impl_MeanOf.mono _ _
    | exact impl_SeriesOf.mono _ _ _ _
    | exact LeO.none _
    | refine LeO.ite ?_ ?_
    | refine LeO.bind ?_ (fun _ => ?_)
theorem impl_AverageOf.mono : ∀ a0 a1 a2 a3 a4 k, LeO (impl_AverageOf.f k a0 a1 a2 a3 a4) (impl_AverageOf.f (k + 1) a0 a1 a2 a3 a4) := by
 intro a0 a1 a2 a3 a4 k
 have ih0 := impl_AverageOf.mono_l k
 unfold impl_AverageOf.f
 repeat' first
  | (with_reducible exact ih0 _ _ _ _ _ _)
  | (with_reducible exact impl_MeanOf.mono _ _)
  | (with_reducible exact impl_SeriesOf.mono _ _ _ _)
  | (with_reducible exact LeO.refl _)
  | (with_reducible exact LeO.none _)
  | (with_reducible refine LeO.ite ?_ ?_)
  | (with_reducible refine LeO.bind ?_ (fun _ => ?_))
  | exact ih0 _ _ _ _ _ _
  | exact impl_MeanOf.mono _ _
  | exact impl_SeriesOf.mono _ _ _ _
  | exact LeO.none _
  | refine LeO.ite ?_ ?_
  | refine LeO.bind ?_ (fun _ => ?_)
set_option maxHeartbeats 8000000 in
set_option maxRecDepth 100000 in
theorem impl_AverageOf.calls (k : Nat) (A0 : Option Addr) (c0 : Nat) (l0 : List (S84)) (a1 : ByteArray) (a2 : ByteArray) (a3 : Int) (a4 : Int) (r1 : Int) (r2 : Bool) (w : World) (hr0 : Kd.C k84 w A0 l0.length l0) (hc0 : l0.length ≤ c0) (h : impl_AverageOf.f k l0 a1 a2 a3 a4 = some (r1, r2)) :
 Calls Try.prog 29 #[.slice A0 l0.length c0, .string a1, .string a2, .int .i64 a3, .int .i64 a4] w fun e w' => e = .returned (.tuple #[.int .i64 r1, .bool r2]) ∧ Below w.heap.size w w' := by
 have hu37 := Try.underlying37
 have HR0 := Aside0.mk hr0
 have HC0 := Aside0.mk hc0
 clear hr0 hc0
 have HB := Aside0.mk (Below.refl w.heap.size w)
 have H : ((impl_SeriesOf.f k l0 a1 a2).bind fun bt366 => (impl_AverageOf.l0 k a3 a4 ([] : List Int) bt366.1 (bt366.1.length : Int) 0)) = some (r1, r2) := h
 clear h
 replace H := Option.bind_eq_some_iff.mp H
 obtain ⟨⟨t366, t367⟩, A60, H⟩ := H
 replace H : (impl_AverageOf.l0 k a3 a4 ([] : List Int) t366 (t366.length : Int) 0) = some (r1, r2) := H
 have A6 := Aside0.mk A60
 clear A60
 have H' := Aside0.mk H
 clear H
 go_enter Try.func29, Try.ntmps29
 go_wp2_with (first | ((with_reducible refine gate_callee (f := 16) rfl ?_); refine goesL_ (some 21) rfl rfl Try.func16 (by kernel_rfl) rfl #[.slice A0 l0.length c0, .string a1, .string a2] rfl (by (try simp only [List.map_toArray, List.map_cons, List.map_nil]); first | done | rfl | (simp only [List.length_drop, List.length_take]; rfl)) ?_; (with_reducible refine (impl_SeriesOf.calls k _ _ l0 a1 a2 t366 t367 _ ?side1 ?side2 A6.out).mono ?_); (case side1 => repeat (first | exact HR0.out | (with_reducible refine Kd.C_alloc ?_ _) | (with_reducible refine Kd.C_drewN ?_ _) | (with_reducible refine Kd.C_drew ?_))); (case side2 => exact HC0.out); rintro e w7 ⟨v368, rfl, ho0, hb⟩; refine ⟨_, rfl, ?_⟩; have n0_ := Aside0.mk (Kd.R_lower ho0 (below_size (by repeat (first | (with_reducible first | exact HB.out | apply below_alloc | apply pw_below_drewN | apply below_drew1) | exact HB.out)))); have n1_ := Aside0.mk (below_step (by repeat (first | (with_reducible first | exact HB.out | apply below_alloc | apply pw_below_drewN | apply below_drew1) | exact HB.out)) hb); clear HB; have HO369 := n0_; have HB := n1_; clear n0_ n1_; (try clear hb); (try clear hb2); (try clear hk); (try clear hi); (try clear ho0); obtain ⟨Ao8, co8, eo8⟩ := Kd.R_slice HO369.out; subst eo8))
 go_loopg [14, 26] k (fun kq v14 v26 w' => ∃ (x14_1 : List Int) (x26_1 : Int), v26 = .int .i64 x26_1 ∧ Aside0 (impl_AverageOf.l0 kq a3 a4 x14_1 t366 (t366.length : Int) x26_1 = some (r1, r2)) ∧ Aside0 (kq ≤ k) ∧ Aside0 (Kd.R (Kd.int .i64) 3 w' w.heap.size (fun _ => True) v14 x14_1) ∧ Aside0 (Kd.R k37 37 w' w.heap.size (fun _ => True) (.slice Ao8 t366.length co8) t366) ∧ Aside0 (Below w.heap.size w w'))
 case atStart => exact ⟨(([] : List Int)), (0), (by first | rfl | (simp; done) | (simp [*]; done)), H', ⟨Nat.le_refl _⟩, ⟨by first | exact Kd.R_nil _ _ _ _ _ | exact Kd.N_nil _ _ _ _ _ | exact Kd.V_nil _ _ _ _ _ | exact Kd.Q_nil _ _ _ _ _ | exact Kd.S_nil _ _ _ _ _⟩, ⟨by (with_reducible repeat (first | apply Kd.R_alloc | apply Kd.R_drewN | apply Kd.R_drew)); exact HO369.out⟩, ⟨by repeat (first | (with_reducible first | exact HB.out | apply below_alloc | apply pw_below_drewN | apply below_drew1) | exact HB.out)⟩⟩
 case round =>
  clear H'
  try clear c1
  try clear c2
  try clear p2
  obtain ⟨x14_1, x26_1, rfl, HA, HK1, HO_14, HO_24, HB⟩ := hrel
  cases gk with
  | zero => exact absurd HA.out (by simp [impl_AverageOf.l0])
  | succ k1 =>
   have H := HA.out
   clear HA
   simp only [impl_AverageOf.l0] at H
   by_cases c9 : x26_1 < (t366.length : Int)
   · rw [if_pos c9] at H
     have c9b0 : decide (x26_1 < (t366.length : Int)) = true := decide_eq_true c9
     clear c9
     by_cases c10 : 0 ≤ x26_1
     · rw [if_pos c10] at H
       have c10b0 : decide (0 ≤ x26_1) = true := decide_eq_true c10
       clear c10
       by_cases c11 : x26_1 < (t366.length : Int)
       · rw [if_pos c11] at H
         have c11b0 : decide (x26_1 < (t366.length : Int)) = true := decide_eq_true c11
         clear c11
         by_cases c12 : ((rd_T37 t366 x26_1).f0) > a3
         · rw [if_pos c12] at H
           have c12b0 : decide (a3 < ((rd_T37 t366 x26_1).f0)) = true := decide_eq_true c12
           clear c12
           by_cases c13 : ((rd_T37 t366 x26_1).f0) ≤ a4
           · rw [if_pos c13] at H
             have c13b0 : decide (((rd_T37 t366 x26_1).f0) ≤ a4) = true := decide_eq_true c13
             clear c13
             by_cases c14 : x14_1.length < 17592186044416
             · rw [if_pos c14] at H
               have LMc14 := Aside0.mk c14
               clear c14
               obtain ⟨y372, hy372⟩ : ∃ y_ : List Int, y_ = (x14_1 ++ [(rd_T37 t366 x26_1).f1]) := ⟨_, rfl⟩
               replace H : (impl_AverageOf.l0 k1 a3 a4 y372 t366 (t366.length : Int) (wrap64 (x26_1 + 1))) = some (r1, r2) := by first | (rw [hy372]; with_reducible exact H) | (have H2_ := (Option.bind_some _ _).symm.trans H; rw [hy372]; with_reducible exact H2_) | (have H2_ := (Option.bind_some _ _).symm.trans H; with_reducible exact H2_) | with_reducible exact H | (rw [hy372]; exact H) | exact H
               have Ny372 := Aside0.mk hy372
               clear hy372
               have H' := Aside0.mk H
               clear H
               have p370 : 0 ≤ (x26_1 : Int) := of_decide_eq_true (by first | (with_reducible assumption) | assumption)
               have q370 : x26_1 < (t366.length : Int) := of_decide_eq_true (by first | (with_reducible assumption) | assumption)
               obtain ⟨ad370, e370, hx370_0, hx370_1⟩ := at_T37 (Kd.R_reads' HO_24.out).2.2 x26_1 p370 q370
               cases e370
               replace p370 := eq_true p370
               replace q370 := eq_true q370
               go_wp2_with (first | ((with_reducible refine gate_dst (N := 16) rfl ?_); refine box_event ?hg (N := 16) ?hd (cs := #[.int .i64 0, .int .i64 0]) (t := 37) ?hr ?_; (case hd => rfl); (case hg => rfl); (case hr => first | (go_simp; done) | (go_simp; rfl)); intro gb371 hg w15 hbox hb; have n0_ := Aside0.mk (Kd.R_below (by (with_reducible repeat (first | apply Kd.R_alloc | apply Kd.R_drewN | apply Kd.R_drew)); exact HO_14.out) hb); have n1_ := Aside0.mk (Kd.R_below (Kd.R_elderB (by (with_reducible repeat (first | apply Kd.R_alloc | apply Kd.R_drewN | apply Kd.R_drew)); exact HO_24.out) gb371 (Nat.le_of_eq hg.symm)) hb); have n2_ := Aside0.mk (below_step (by repeat (first | (with_reducible first | exact HB.out | apply below_alloc | apply pw_below_drewN | apply below_drew1) | exact HB.out)) hb); have n3_ := Aside0.mk (hbox); have n4_ := Aside0.mk ((by rw [hg]; exact (below_size (by repeat (first | (with_reducible first | exact HB.out | apply below_alloc | apply pw_below_drewN | apply below_drew1) | exact HB.out))) : w.heap.size ≤ gb371)); have n5_ := Aside0.mk ((by rw [hg]; exact (below_size (by repeat (first | (with_reducible first | exact HB.out | apply below_alloc | apply pw_below_drewN | apply below_drew1) | exact HB.out))) : w.heap.size ≤ gb371)); clear HO_14; clear HO_24; clear HB; have HO_14 := n0_; have HO_24 := n1_; have HB := n2_; have BK371 := n3_; have GW371 := n4_; have GE371 := n5_; clear n0_ n1_ n2_ n3_ n4_ n5_; clear hb hbox hg; have hcz16_0 : w15.cell? ⟨gb371, 0, none⟩ = some (.int .i64 0) := (blk_cell BK371.out 0).trans rfl; have hcz16_1 : w15.cell? ⟨gb371, 1, none⟩ = some (.int .i64 0) := (blk_cell BK371.out 1).trans rfl; have hfz16_0 := blk_frozen BK371.out 0; have hfz16_1 := blk_frozen BK371.out 1) | ((with_reducible refine gate_builtin (b := .append) (xs := #[.tmp 40, .tmp 43]) rfl ?_); at_builtin; refine Kd.R_append (Kd.int .i64) (w0 := w) w.heap.size rfl (.tmp 40) (.tmp 43) 25 3 (.int .i64 0) 8 rfl Try.underlying25 info3 rfl (by decide) (by omega) u14 x14_1 ((rd_T37 t366 x26_1).f1) [.int .i64 ((rd_T37 t366 x26_1).f1)] (fun _ => True) (fun _ => False) rfl (by first | (go_simp; done) | (go_simp; rfl)) ?aP (fun _ hk => hk.elim) ?aF ?aO ?aB ?aS ?aL ?_; (case aP => exact rfl); (case aB => exact (by repeat (first | (with_reducible first | exact HB.out | apply below_alloc | apply pw_below_drewN | apply below_drew1 | refine below_set ?_ GE371.out) | exact HB.out))); (case aF => exact (fun _ _ => trivial)); (case aO => exact (by (with_reducible repeat (first | apply Kd.R_alloc | apply Kd.R_drewN | apply Kd.R_drew)); exact Kd.R_mono (Kd.R_far (p := ⟨gb371, 1, none⟩) (Kd.R_far (p := ⟨gb371, 0, none⟩) (Kd.R_types HO_14.out BK371.out (by decide)) (fun _ hk => hk.2) (.int .i64 ((rd_T37 t366 x26_1).f0))) (fun _ hk => hk.2) (.int .i64 ((rd_T37 t366 x26_1).f1))) (fun _ hk => trivial))); (case aS => exact (below_size (by repeat (first | (with_reducible first | exact HB.out | apply below_alloc | apply pw_below_drewN | apply below_drew1 | refine below_set ?_ GE371.out) | exact HB.out)))); (case aL => have := LMc14.out; omega); intro v373 w17 ho hb hg hat; rw [← Ny372.out] at ho; have n0_ := Aside0.mk (Kd.R_over' (by (with_reducible repeat (first | apply Kd.R_alloc | apply Kd.R_drewN | apply Kd.R_drew)); exact (Kd.R_mono (Kd.R_far (p := ⟨gb371, 1, none⟩) (Kd.R_far (p := ⟨gb371, 0, none⟩) (Kd.R_mono HO_24.out (fun k_ hk => (⟨hk, hk.2⟩ : _ ∧ k_ ≠ gb371))) (fun _ hk => hk.2) (.int .i64 ((rd_T37 t366 x26_1).f0))) (fun _ hk => hk.2) (.int .i64 ((rd_T37 t366 x26_1).f1))) (fun _ h_ => h_.1))) (Kd.R_typed (by (with_reducible repeat (first | apply Kd.R_alloc | apply Kd.R_drewN | apply Kd.R_drew)); exact (Kd.R_mono (Kd.R_far (p := ⟨gb371, 1, none⟩) (Kd.R_far (p := ⟨gb371, 0, none⟩) (Kd.R_types HO_14.out BK371.out (by decide)) (fun _ hk => hk.2) (.int .i64 ((rd_T37 t366 x26_1).f0))) (fun _ hk => hk.2) (.int .i64 ((rd_T37 t366 x26_1).f1))) (fun _ h_ => h_.1)))) (by decide) hg); have n1_ := Aside0.mk (blk_grown (g := gb371) (o := .cells #[.int .i64 ((rd_T37 t366 x26_1).f0), .int .i64 ((rd_T37 t366 x26_1).f1)] 37 (0, 0)) (by (with_reducible repeat (first | refine blk_drewN ?_ _ | refine blk_drew ?_ | refine blk_alloc ?_ _)); refine blk_put (cs := #[.int .i64 ((rd_T37 t366 x26_1).f0), .int .i64 0]) ?_ 1 _ rfl; (with_reducible repeat (first | refine blk_drewN ?_ _ | refine blk_drew ?_ | refine blk_alloc ?_ _)); refine blk_put (cs := #[.int .i64 0, .int .i64 0]) ?_ 0 _ rfl; (with_reducible repeat (first | refine blk_drewN ?_ _ | refine blk_drew ?_ | refine blk_alloc ?_ _)); exact BK371.out) hg (Kd.R_ne HO_14.out BK371.out (by decide))); have n2_ := Aside0.mk (hb); have n3_ := Aside0.mk (ho); clear HO_24; clear BK371; clear HB; clear HO_14; have HO_24 := n0_; have BK371 := n1_; have HB := n2_; have HO374 := n3_; clear n0_ n1_ n2_ n3_; clear ho hb hg hat))
               go_roundg k1
               case measure => have := HK1.out; omega
               case rel => exact ⟨(y372), (wrap64 (x26_1 + 1)), (by first | rfl | (simp; done) | (simp [*]; done)), H', ⟨by have := HK1.out; omega⟩, ⟨by (with_reducible repeat (first | apply Kd.R_alloc | apply Kd.R_drewN | apply Kd.R_drew)); exact HO374.out⟩, ⟨by (with_reducible repeat (first | apply Kd.R_alloc | apply Kd.R_drewN | apply Kd.R_drew)); exact Kd.R_mono HO_24.out (fun _ hk => trivial)⟩, ⟨by repeat (first | (with_reducible first | exact HB.out | apply below_alloc | apply pw_below_drewN | apply below_drew1 | refine below_set ?_ GE371.out) | exact HB.out)⟩⟩
             · rw [if_neg c14] at H
               exact absurd H (by simp)
           · rw [if_neg c13] at H
             have c13b0 : decide (((rd_T37 t366 x26_1).f0) ≤ a4) = false := decide_eq_false c13
             clear c13
             have H' := Aside0.mk H
             clear H
             have p370 : 0 ≤ (x26_1 : Int) := of_decide_eq_true (by first | (with_reducible assumption) | assumption)
             have q370 : x26_1 < (t366.length : Int) := of_decide_eq_true (by first | (with_reducible assumption) | assumption)
             obtain ⟨ad370, e370, hx370_0, hx370_1⟩ := at_T37 (Kd.R_reads' HO_24.out).2.2 x26_1 p370 q370
             cases e370
             replace p370 := eq_true p370
             replace q370 := eq_true q370
             go_wp2_with (first | ((with_reducible refine gate_dst (N := 16) rfl ?_); refine box_event ?hg (N := 16) ?hd (cs := #[.int .i64 0, .int .i64 0]) (t := 37) ?hr ?_; (case hd => rfl); (case hg => rfl); (case hr => first | (go_simp; done) | (go_simp; rfl)); intro gb371 hg w18 hbox hb; have n0_ := Aside0.mk (Kd.R_below (by (with_reducible repeat (first | apply Kd.R_alloc | apply Kd.R_drewN | apply Kd.R_drew)); exact HO_14.out) hb); have n1_ := Aside0.mk (Kd.R_below (Kd.R_elderB (by (with_reducible repeat (first | apply Kd.R_alloc | apply Kd.R_drewN | apply Kd.R_drew)); exact HO_24.out) gb371 (Nat.le_of_eq hg.symm)) hb); have n2_ := Aside0.mk (below_step (by repeat (first | (with_reducible first | exact HB.out | apply below_alloc | apply pw_below_drewN | apply below_drew1) | exact HB.out)) hb); have n3_ := Aside0.mk (hbox); have n4_ := Aside0.mk ((by rw [hg]; exact (below_size (by repeat (first | (with_reducible first | exact HB.out | apply below_alloc | apply pw_below_drewN | apply below_drew1) | exact HB.out))) : w.heap.size ≤ gb371)); have n5_ := Aside0.mk ((by rw [hg]; exact (below_size (by repeat (first | (with_reducible first | exact HB.out | apply below_alloc | apply pw_below_drewN | apply below_drew1) | exact HB.out))) : w.heap.size ≤ gb371)); clear HO_14; clear HO_24; clear HB; have HO_14 := n0_; have HO_24 := n1_; have HB := n2_; have BK371 := n3_; have GW371 := n4_; have GE371 := n5_; clear n0_ n1_ n2_ n3_ n4_ n5_; clear hb hbox hg; have hcz19_0 : w18.cell? ⟨gb371, 0, none⟩ = some (.int .i64 0) := (blk_cell BK371.out 0).trans rfl; have hcz19_1 : w18.cell? ⟨gb371, 1, none⟩ = some (.int .i64 0) := (blk_cell BK371.out 1).trans rfl; have hfz19_0 := blk_frozen BK371.out 0; have hfz19_1 := blk_frozen BK371.out 1))
             go_roundg k1
             case measure => have := HK1.out; omega
             case rel => exact ⟨(x14_1), (wrap64 (x26_1 + 1)), (by first | rfl | (simp; done) | (simp [*]; done)), H', ⟨by have := HK1.out; omega⟩, ⟨by (with_reducible repeat (first | apply Kd.R_alloc | apply Kd.R_drewN | apply Kd.R_drew)); exact Kd.R_mono (Kd.R_far (p := ⟨gb371, 1, none⟩) (Kd.R_far (p := ⟨gb371, 0, none⟩) (Kd.R_types HO_14.out BK371.out (by decide)) (fun _ hk => hk.2) (.int .i64 ((rd_T37 t366 x26_1).f0))) (fun _ hk => hk.2) (.int .i64 ((rd_T37 t366 x26_1).f1))) (fun _ hk => trivial)⟩, ⟨by (with_reducible repeat (first | apply Kd.R_alloc | apply Kd.R_drewN | apply Kd.R_drew)); exact Kd.R_mono (Kd.R_far (p := ⟨gb371, 1, none⟩) (Kd.R_far (p := ⟨gb371, 0, none⟩) (Kd.R_mono HO_24.out (fun k_ hk => (⟨hk, hk.2⟩ : _ ∧ k_ ≠ gb371))) (fun _ hk => hk.2) (.int .i64 ((rd_T37 t366 x26_1).f0))) (fun _ hk => hk.2) (.int .i64 ((rd_T37 t366 x26_1).f1))) (fun _ hk => trivial)⟩, ⟨by repeat (first | (with_reducible first | exact HB.out | apply below_alloc | apply pw_below_drewN | apply below_drew1 | refine below_set ?_ GE371.out) | exact HB.out)⟩⟩
         · rw [if_neg c12] at H
           have c12b0 : decide (a3 < ((rd_T37 t366 x26_1).f0)) = false := decide_eq_false c12
           clear c12
           have H' := Aside0.mk H
           clear H
           have p370 : 0 ≤ (x26_1 : Int) := of_decide_eq_true (by first | (with_reducible assumption) | assumption)
           have q370 : x26_1 < (t366.length : Int) := of_decide_eq_true (by first | (with_reducible assumption) | assumption)
           obtain ⟨ad370, e370, hx370_0, hx370_1⟩ := at_T37 (Kd.R_reads' HO_24.out).2.2 x26_1 p370 q370
           cases e370
           replace p370 := eq_true p370
           replace q370 := eq_true q370
           go_wp2_with (first | ((with_reducible refine gate_dst (N := 16) rfl ?_); refine box_event ?hg (N := 16) ?hd (cs := #[.int .i64 0, .int .i64 0]) (t := 37) ?hr ?_; (case hd => rfl); (case hg => rfl); (case hr => first | (go_simp; done) | (go_simp; rfl)); intro gb371 hg w20 hbox hb; have n0_ := Aside0.mk (Kd.R_below (by (with_reducible repeat (first | apply Kd.R_alloc | apply Kd.R_drewN | apply Kd.R_drew)); exact HO_14.out) hb); have n1_ := Aside0.mk (Kd.R_below (Kd.R_elderB (by (with_reducible repeat (first | apply Kd.R_alloc | apply Kd.R_drewN | apply Kd.R_drew)); exact HO_24.out) gb371 (Nat.le_of_eq hg.symm)) hb); have n2_ := Aside0.mk (below_step (by repeat (first | (with_reducible first | exact HB.out | apply below_alloc | apply pw_below_drewN | apply below_drew1) | exact HB.out)) hb); have n3_ := Aside0.mk (hbox); have n4_ := Aside0.mk ((by rw [hg]; exact (below_size (by repeat (first | (with_reducible first | exact HB.out | apply below_alloc | apply pw_below_drewN | apply below_drew1) | exact HB.out))) : w.heap.size ≤ gb371)); have n5_ := Aside0.mk ((by rw [hg]; exact (below_size (by repeat (first | (with_reducible first | exact HB.out | apply below_alloc | apply pw_below_drewN | apply below_drew1) | exact HB.out))) : w.heap.size ≤ gb371)); clear HO_14; clear HO_24; clear HB; have HO_14 := n0_; have HO_24 := n1_; have HB := n2_; have BK371 := n3_; have GW371 := n4_; have GE371 := n5_; clear n0_ n1_ n2_ n3_ n4_ n5_; clear hb hbox hg; have hcz21_0 : w20.cell? ⟨gb371, 0, none⟩ = some (.int .i64 0) := (blk_cell BK371.out 0).trans rfl; have hcz21_1 : w20.cell? ⟨gb371, 1, none⟩ = some (.int .i64 0) := (blk_cell BK371.out 1).trans rfl; have hfz21_0 := blk_frozen BK371.out 0; have hfz21_1 := blk_frozen BK371.out 1))
           go_roundg k1
           case measure => have := HK1.out; omega
           case rel => exact ⟨(x14_1), (wrap64 (x26_1 + 1)), (by first | rfl | (simp; done) | (simp [*]; done)), H', ⟨by have := HK1.out; omega⟩, ⟨by (with_reducible repeat (first | apply Kd.R_alloc | apply Kd.R_drewN | apply Kd.R_drew)); exact Kd.R_mono (Kd.R_far (p := ⟨gb371, 1, none⟩) (Kd.R_far (p := ⟨gb371, 0, none⟩) (Kd.R_types HO_14.out BK371.out (by decide)) (fun _ hk => hk.2) (.int .i64 ((rd_T37 t366 x26_1).f0))) (fun _ hk => hk.2) (.int .i64 ((rd_T37 t366 x26_1).f1))) (fun _ hk => trivial)⟩, ⟨by (with_reducible repeat (first | apply Kd.R_alloc | apply Kd.R_drewN | apply Kd.R_drew)); exact Kd.R_mono (Kd.R_far (p := ⟨gb371, 1, none⟩) (Kd.R_far (p := ⟨gb371, 0, none⟩) (Kd.R_mono HO_24.out (fun k_ hk => (⟨hk, hk.2⟩ : _ ∧ k_ ≠ gb371))) (fun _ hk => hk.2) (.int .i64 ((rd_T37 t366 x26_1).f0))) (fun _ hk => hk.2) (.int .i64 ((rd_T37 t366 x26_1).f1))) (fun _ hk => trivial)⟩, ⟨by repeat (first | (with_reducible first | exact HB.out | apply below_alloc | apply pw_below_drewN | apply below_drew1 | refine below_set ?_ GE371.out) | exact HB.out)⟩⟩
       · rw [if_neg c11] at H
         exact absurd H (by simp)
     · rw [if_neg c10] at H
       exact absurd H (by simp)
   · rw [if_neg c9] at H
     have c9b0 : decide (x26_1 < (t366.length : Int)) = false := decide_eq_false c9
     clear c9
     replace H := Option.bind_eq_some_iff.mp H
     obtain ⟨⟨t375, t376⟩, A220, H⟩ := H
     replace H : (some (t375, t376)) = some (r1, r2) := H
     have A22 := Aside0.mk A220
     clear A220
     simp only [Option.some.injEq, Prod.mk.injEq] at H
     obtain ⟨rfl, rfl⟩ := H
     obtain ⟨Ao23, co23, eo23⟩ := Kd.R_slice HO_14.out
     subst eo23
     go_wp2_with (first | ((with_reducible refine gate_callee (f := 90) rfl ?_); refine goesL_ (some 47) rfl rfl Try.func90 (by kernel_rfl) rfl #[.slice Ao23 x14_1.length co23] rfl (by (try simp only [List.map_toArray, List.map_cons, List.map_nil]); first | done | rfl | (simp only [List.length_drop, List.length_take]; rfl)) ?_; (with_reducible refine (impl_MeanOf.calls k1 _ _ x14_1 t375 t376 _ ?side1 ?side2 A22.out).mono ?_); (case side1 => repeat (first | exact (Kd.R_reads' HO_14.out).2.2 | (with_reducible refine Kd.C_alloc ?_ _) | (with_reducible refine Kd.C_drewN ?_ _) | (with_reducible refine Kd.C_drew ?_))); (case side2 => exact (Kd.R_reads' HO_14.out).2.1); rintro e w24 ⟨rfl, hb⟩; refine ⟨_, rfl, ?_⟩; have n0_ := Aside0.mk (Kd.R_below (by (with_reducible repeat (first | apply Kd.R_alloc | apply Kd.R_drewN | apply Kd.R_drew)); exact HO_14.out) hb); have n1_ := Aside0.mk (Kd.R_below (by (with_reducible repeat (first | apply Kd.R_alloc | apply Kd.R_drewN | apply Kd.R_drew)); exact HO_24.out) hb); have n2_ := Aside0.mk (below_step (by repeat (first | (with_reducible first | exact HB.out | apply below_alloc | apply pw_below_drewN | apply below_drew1) | exact HB.out)) hb); clear HO_14; clear HO_24; clear HB; have HO_14 := n0_; have HO_24 := n1_; have HB := n2_; clear n0_ n1_ n2_; (try clear hb); (try clear hb2); (try clear hk); (try clear hi)))
     go_ret2
     exact ⟨by first | rfl | (simp [errW_none, errW_some] <;> rfl) | (simp [*, errW_none, errW_some] <;> rfl), by repeat (first | (with_reducible first | exact HB.out | apply below_alloc | apply pw_below_drewN | apply below_drew1) | exact HB.out)⟩

end Go.Proofs.Ytklbbgilfahjhaa.Q
namespace Go.Proofs.Ytklbbgilfahjhaa.Q
open Go.RowKit Go.Proofs.YtklbbgilfahjhaaW.PrintWords Go.Proofs.YtklbbgilfahjhaaW.PrintLast Go.Proofs.YtklbbgilfahjhaaW.PrintMore
attribute [local go_sem] max2_int min2_int max_two min_two max_three min_three max_four min_four   -- for this text's walks alone
set_option linter.unusedVariables false
set_option linter.unusedSimpArgs false

/-! ### laws_FnExactAverageOf: function 5 -/
def laws_FnExactAverageOf.j0 : Nat → List (S140) → List (S84) → Bool → Option (Bool)
 | 0, _, _, _ => none
 | k + 1, x0, x14, x56 => if x56 = true then (some false) else ((laws_toSeriesS.f k x0).bind fun t388 => ((laws_eqSeriesS.f k x14 t388).bind fun t391 => (if t391 = true then (some true) else (some false))))
def laws_FnExactAverageOf.f (k : Nat) (l0 : List (S140)) (a1 : ByteArray) (a2 : ByteArray) (a3 : Int) (a4 : Int) : Option (Bool) := if (a1.size : Int) > 1048576 then (some true) else (if (a2.size : Int) > 1048576 then (some true) else ((laws_szSeriesS.f k l0 1048576).bind fun t377 => (if t377 < 0 then (some true) else ((laws_toSeriesS.f k l0).bind fun t378 => ((spec_AverageOf.f k t378 a1 a2 a3 a4).bind fun bt381 => ((laws_toSeriesS.f k l0).bind fun t383 => ((impl_AverageOf.f k t383 a1 a2 a3 a4).bind fun bt386 => (if bt386.1 = bt381.1 then (laws_FnExactAverageOf.j0 k l0 t383 (bt386.2 != bt381.2)) else (laws_FnExactAverageOf.j0 k l0 t383 true)))))))))
theorem laws_FnExactAverageOf.mono_l : ∀ k, (∀ y0 y1 y2, LeO (laws_FnExactAverageOf.j0 k y0 y1 y2) (laws_FnExactAverageOf.j0 (k + 1) y0 y1 y2))
 | 0 => fun _ _ _ r h => by simp [laws_FnExactAverageOf.j0] at h
 | k + 1 => by
  have ih0 := laws_FnExactAverageOf.mono_l k
  · intro y0 y1 y2
    unfold laws_FnExactAverageOf.j0
    repeat' first
    | (with_reducible exact ih0 _ _ _)
    | (with_reducible exact impl_AverageOf.mono _ _ _ _ _ _)
    | (with_reducible exact laws_eqSeriesS.mono _ _ _)
    | (with_reducible exact laws_szSeriesS.mono _ _ _)
    | (with_reducible exact laws_toSeriesS.mono _ _)
    | (with_reducible exact spec_AverageOf.mono _ _ _ _ _ _)
    | (with_reducible exact LeO.refl _)
    | (with_reducible exact LeO.none _)
    | (with_reducible refine LeO.ite ?_ ?_)
    | (with_reducible refine LeO.bind ?_ (fun _ => ?_))
    | exact ih0 _ _ _
    | exact impl_AverageOf.mono _ _ _ _ _ _
    | exact laws_eqSeriesS.mono _ _ _
    | exact laws_szSeriesS.mono _ _ _
    | exact laws_toSeriesS.mono _ _
    | exact spec_AverageOf.mono _ _ _ _ _ _
    | exact LeO.none _
    | refine LeO.ite ?_ ?_
    | refine LeO.bind ?_ (fun _ => ?_)
theorem laws_FnExactAverageOf.mono : ∀ a0 a1 a2 a3 a4 k, LeO (laws_FnExactAverageOf.f k a0 a1 a2 a3 a4) (laws_FnExactAverageOf.f (k + 1) a0 a1 a2 a3 a4) := by
 intro a0 a1 a2 a3 a4 k
 have ih0 := laws_FnExactAverageOf.mono_l k
 unfold laws_FnExactAverageOf.f
 repeat' first
  | (with_reducible exact ih0 _ _ _)
  | (with_reducible exact impl_AverageOf.mono _ _ _ _ _ _)
  | (with_reducible exact laws_eqSeriesS.mono _ _ _)
  | (with_reducible exact laws_szSeriesS.mono _ _ _)
  | (with_reducible exact laws_toSeriesS.mono _ _)
  | (with_reducible exact spec_AverageOf.mono _ _ _ _ _ _)
  | (with_reducible exact LeO.refl _)
  | (with_reducible exact LeO.none _)
  | (with_reducible refine LeO.ite ?_ ?_)
  | (with_reducible refine LeO.bind ?_ (fun _ => ?_))
  | exact ih0 _ _ _
  | exact impl_AverageOf.mono _ _ _ _ _ _
  | exact laws_eqSeriesS.mono _ _ _
  | exact laws_szSeriesS.mono _ _ _
  | exact laws_toSeriesS.mono _ _
  | exact spec_AverageOf.mono _ _ _ _ _ _
  | exact LeO.none _
  | refine LeO.ite ?_ ?_
  | refine LeO.bind ?_ (fun _ => ?_)
set_option maxHeartbeats 8000000 in
set_option maxRecDepth 100000 in
theorem laws_FnExactAverageOf.calls (k : Nat) (A0 : Option Addr) (c0 : Nat) (l0 : List (S140)) (a1 : ByteArray) (a2 : ByteArray) (a3 : Int) (a4 : Int) (r : Bool) (w : World) (hr0 : Kd.C k140 w A0 l0.length l0) (hc0 : l0.length ≤ c0) (h : laws_FnExactAverageOf.f k l0 a1 a2 a3 a4 = some r) :
 Calls Try.prog 5 #[.slice A0 l0.length c0, .string a1, .string a2, .int .i64 a3, .int .i64 a4] w fun e w' => e = .returned (.bool r) ∧ Below w.heap.size w w' := by
 have HR0 := Aside0.mk hr0
 have HC0 := Aside0.mk hc0
 clear hr0 hc0
 have HB := Aside0.mk (Below.refl w.heap.size w)
 have H : (if (a1.size : Int) > 1048576 then (some true) else (if (a2.size : Int) > 1048576 then (some true) else ((laws_szSeriesS.f k l0 1048576).bind fun t377 => (if t377 < 0 then (some true) else ((laws_toSeriesS.f k l0).bind fun t378 => ((spec_AverageOf.f k t378 a1 a2 a3 a4).bind fun bt381 => ((laws_toSeriesS.f k l0).bind fun t383 => ((impl_AverageOf.f k t383 a1 a2 a3 a4).bind fun bt386 => (if bt386.1 = bt381.1 then (laws_FnExactAverageOf.j0 k l0 t383 (bt386.2 != bt381.2)) else (laws_FnExactAverageOf.j0 k l0 t383 true)))))))))) = some r := h
 clear h
 by_cases c6 : (a1.size : Int) > 1048576
 · rw [if_pos c6] at H
   have c6b0 : decide (1048576 < (a1.size : Int)) = true := decide_eq_true c6
   have c6b1 : decide (1048576 < a1.size) = true := decide_eq_true (by omega)
   clear c6
   obtain rfl := Option.some.inj H
   go_enter Try.func5, Try.ntmps5
   go_wp2
   go_ret
   exact ⟨by first | rfl | (simp [errW_none, errW_some] <;> rfl) | (simp [*, errW_none, errW_some] <;> rfl), by repeat (first | (with_reducible first | exact HB.out | apply below_alloc | apply pw_below_drewN | apply below_drew1) | exact HB.out)⟩
 · rw [if_neg c6] at H
   have c6b0 : decide (1048576 < (a1.size : Int)) = false := decide_eq_false c6
   have c6b1 : decide (1048576 < a1.size) = false := decide_eq_false (by omega)
   clear c6
   by_cases c7 : (a2.size : Int) > 1048576
   · rw [if_pos c7] at H
     have c7b0 : decide (1048576 < (a2.size : Int)) = true := decide_eq_true c7
     have c7b1 : decide (1048576 < a2.size) = true := decide_eq_true (by omega)
     clear c7
     obtain rfl := Option.some.inj H
     go_enter Try.func5, Try.ntmps5
     go_wp2
     go_ret
     exact ⟨by first | rfl | (simp [errW_none, errW_some] <;> rfl) | (simp [*, errW_none, errW_some] <;> rfl), by repeat (first | (with_reducible first | exact HB.out | apply below_alloc | apply pw_below_drewN | apply below_drew1) | exact HB.out)⟩
   · rw [if_neg c7] at H
     have c7b0 : decide (1048576 < (a2.size : Int)) = false := decide_eq_false c7
     have c7b1 : decide (1048576 < a2.size) = false := decide_eq_false (by omega)
     clear c7
     replace H := Option.bind_eq_some_iff.mp H
     obtain ⟨t377, A80, H⟩ := H
     replace H : (if t377 < 0 then (some true) else ((laws_toSeriesS.f k l0).bind fun t378 => ((spec_AverageOf.f k t378 a1 a2 a3 a4).bind fun bt381 => ((laws_toSeriesS.f k l0).bind fun t383 => ((impl_AverageOf.f k t383 a1 a2 a3 a4).bind fun bt386 => (if bt386.1 = bt381.1 then (laws_FnExactAverageOf.j0 k l0 t383 (bt386.2 != bt381.2)) else (laws_FnExactAverageOf.j0 k l0 t383 true))))))) = some r := H
     have A8 := Aside0.mk A80
     clear A80
     by_cases c9 : t377 < 0
     · rw [if_pos c9] at H
       have c9b0 : decide (t377 < 0) = true := decide_eq_true c9
       clear c9
       obtain rfl := Option.some.inj H
       go_enter Try.func5, Try.ntmps5
       go_wp2_with (first | ((with_reducible refine gate_callee (f := 22) rfl ?_); refine goesL_ (some 25) rfl rfl Try.func22 (by kernel_rfl) rfl #[.slice A0 l0.length c0, .int .i64 1048576] rfl (by (try simp only [List.map_toArray, List.map_cons, List.map_nil]); first | done | rfl | (simp only [List.length_drop, List.length_take]; rfl)) ?_; (with_reducible refine (laws_szSeriesS.calls k _ _ l0 1048576 t377 _ ?side1 ?side2 A8.out).mono ?_); (case side1 => repeat (first | exact HR0.out | (with_reducible refine Kd.C_alloc ?_ _) | (with_reducible refine Kd.C_drewN ?_ _) | (with_reducible refine Kd.C_drew ?_))); (case side2 => exact HC0.out); rintro e w10 ⟨rfl, hb⟩; refine ⟨_, rfl, ?_⟩; have n0_ := Aside0.mk (below_step (by repeat (first | (with_reducible first | exact HB.out | apply below_alloc | apply pw_below_drewN | apply below_drew1) | exact HB.out)) hb); clear HB; have HB := n0_; clear n0_; (try clear hb); (try clear hb2); (try clear hk); (try clear hi)))
       go_ret
       exact ⟨by first | rfl | (simp [errW_none, errW_some] <;> rfl) | (simp [*, errW_none, errW_some] <;> rfl), by repeat (first | (with_reducible first | exact HB.out | apply below_alloc | apply pw_below_drewN | apply below_drew1) | exact HB.out)⟩
     · rw [if_neg c9] at H
       have c9b0 : decide (t377 < 0) = false := decide_eq_false c9
       clear c9
       replace H := Option.bind_eq_some_iff.mp H
       obtain ⟨t378, A110, H⟩ := H
       replace H : ((spec_AverageOf.f k t378 a1 a2 a3 a4).bind fun bt381 => ((laws_toSeriesS.f k l0).bind fun t383 => ((impl_AverageOf.f k t383 a1 a2 a3 a4).bind fun bt386 => (if bt386.1 = bt381.1 then (laws_FnExactAverageOf.j0 k l0 t383 (bt386.2 != bt381.2)) else (laws_FnExactAverageOf.j0 k l0 t383 true))))) = some r := H
       have A11 := Aside0.mk A110
       clear A110
       replace H := Option.bind_eq_some_iff.mp H
       obtain ⟨⟨t381, t382⟩, A120, H⟩ := H
       replace H : ((laws_toSeriesS.f k l0).bind fun t383 => ((impl_AverageOf.f k t383 a1 a2 a3 a4).bind fun bt386 => (if bt386.1 = t381 then (laws_FnExactAverageOf.j0 k l0 t383 (bt386.2 != t382)) else (laws_FnExactAverageOf.j0 k l0 t383 true)))) = some r := H
       have A12 := Aside0.mk A120
       clear A120
       replace H := Option.bind_eq_some_iff.mp H
       obtain ⟨t383, A130, H⟩ := H
       replace H : ((impl_AverageOf.f k t383 a1 a2 a3 a4).bind fun bt386 => (if bt386.1 = t381 then (laws_FnExactAverageOf.j0 k l0 t383 (bt386.2 != t382)) else (laws_FnExactAverageOf.j0 k l0 t383 true))) = some r := H
       have A13 := Aside0.mk A130
       clear A130
       replace H := Option.bind_eq_some_iff.mp H
       obtain ⟨⟨t386, t387⟩, A140, H⟩ := H
       replace H : (if t386 = t381 then (laws_FnExactAverageOf.j0 k l0 t383 (t387 != t382)) else (laws_FnExactAverageOf.j0 k l0 t383 true)) = some r := H
       have A14 := Aside0.mk A140
       clear A140
       have HC15 := Aside0.mk H
       clear H
       go_enter Try.func5, Try.ntmps5
       go_upto_region 12 with (first | ((with_reducible refine gate_callee (f := 22) rfl ?_); refine goesL_ (some 25) rfl rfl Try.func22 (by kernel_rfl) rfl #[.slice A0 l0.length c0, .int .i64 1048576] rfl (by (try simp only [List.map_toArray, List.map_cons, List.map_nil]); first | done | rfl | (simp only [List.length_drop, List.length_take]; rfl)) ?_; (with_reducible refine (laws_szSeriesS.calls k _ _ l0 1048576 t377 _ ?side1 ?side2 A8.out).mono ?_); (case side1 => repeat (first | exact HR0.out | (with_reducible refine Kd.C_alloc ?_ _) | (with_reducible refine Kd.C_drewN ?_ _) | (with_reducible refine Kd.C_drew ?_))); (case side2 => exact HC0.out); rintro e w16 ⟨rfl, hb⟩; refine ⟨_, rfl, ?_⟩; have n0_ := Aside0.mk (below_step (by repeat (first | (with_reducible first | exact HB.out | apply below_alloc | apply pw_below_drewN | apply below_drew1) | exact HB.out)) hb); clear HB; have HB := n0_; clear n0_; (try clear hb); (try clear hb2); (try clear hk); (try clear hi)) | ((with_reducible refine gate_callee (f := 24) rfl ?_); refine goesL_ (some 30) rfl rfl Try.func24 (by kernel_rfl) rfl #[.slice A0 l0.length c0] rfl (by (try simp only [List.map_toArray, List.map_cons, List.map_nil]); first | done | rfl | (simp only [List.length_drop, List.length_take]; rfl)) ?_; (with_reducible refine (laws_toSeriesS.calls k _ _ l0 t378 _ ?side1 ?side2 A11.out).mono ?_); (case side1 => repeat (first | exact (Kd.C_below HR0.out HB.out) | (with_reducible refine Kd.C_alloc ?_ _) | (with_reducible refine Kd.C_drewN ?_ _) | (with_reducible refine Kd.C_drew ?_))); (case side2 => exact HC0.out); rintro e w17 ⟨v379, rfl, ho0, hb⟩; refine ⟨_, rfl, ?_⟩; have n0_ := Aside0.mk (Kd.S_lower ho0 (below_size (by repeat (first | (with_reducible first | exact HB.out | apply below_alloc | apply pw_below_drewN | apply below_drew1) | exact HB.out)))); have n1_ := Aside0.mk (below_step (by repeat (first | (with_reducible first | exact HB.out | apply below_alloc | apply pw_below_drewN | apply below_drew1) | exact HB.out)) hb); clear HB; have HO380 := n0_; have HB := n1_; clear n0_ n1_; (try clear hb); (try clear hb2); (try clear hk); (try clear hi); (try clear ho0); obtain ⟨Ao18, co18, eo18⟩ := Kd.S_slice HO380.out; subst eo18) | ((with_reducible refine gate_callee (f := 28) rfl ?_); refine goesL_ (some 35) rfl rfl Try.func28 (by kernel_rfl) rfl #[.slice Ao18 t378.length co18, .string a1, .string a2, .int .i64 a3, .int .i64 a4] rfl (by (try simp only [List.map_toArray, List.map_cons, List.map_nil]); first | done | rfl | (simp only [List.length_drop, List.length_take]; rfl)) ?_; (with_reducible refine (spec_AverageOf.calls k _ _ t378 a1 a2 a3 a4 t381 t382 _ ?side1 ?side2 A12.out).mono ?_); (case side1 => repeat (first | exact (Kd.S_reads' HO380.out).2.2 | (with_reducible refine Kd.C_alloc ?_ _) | (with_reducible refine Kd.C_drewN ?_ _) | (with_reducible refine Kd.C_drew ?_))); (case side2 => exact (Kd.S_reads' HO380.out).2.1); rintro e w19 ⟨rfl, hb⟩; refine ⟨_, rfl, ?_⟩; have n0_ := Aside0.mk (Kd.S_below (by (with_reducible repeat (first | apply Kd.S_alloc | apply Kd.S_drewN | apply Kd.S_drew)); exact HO380.out) hb); have n1_ := Aside0.mk (below_step (by repeat (first | (with_reducible first | exact HB.out | apply below_alloc | apply pw_below_drewN | apply below_drew1) | exact HB.out)) hb); clear HO380; clear HB; have HO380 := n0_; have HB := n1_; clear n0_ n1_; (try clear hb); (try clear hb2); (try clear hk); (try clear hi)) | ((with_reducible refine gate_callee (f := 24) rfl ?_); refine goesL_ (some 39) rfl rfl Try.func24 (by kernel_rfl) rfl #[.slice A0 l0.length c0] rfl (by (try simp only [List.map_toArray, List.map_cons, List.map_nil]); first | done | rfl | (simp only [List.length_drop, List.length_take]; rfl)) ?_; (with_reducible refine (laws_toSeriesS.calls k _ _ l0 t383 _ ?side1 ?side2 A13.out).mono ?_); (case side1 => repeat (first | exact (Kd.C_below HR0.out HB.out) | (with_reducible refine Kd.C_alloc ?_ _) | (with_reducible refine Kd.C_drewN ?_ _) | (with_reducible refine Kd.C_drew ?_))); (case side2 => exact HC0.out); rintro e w20 ⟨v384, rfl, ho0, hb⟩; refine ⟨_, rfl, ?_⟩; have n0_ := Aside0.mk (Kd.S_elder' (by (with_reducible repeat (first | apply Kd.S_alloc | apply Kd.S_drewN | apply Kd.S_drew)); exact HO380.out) (Kd.S_base ho0) hb); have n1_ := Aside0.mk (Kd.S_lower (Kd.S_new' ho0 (Kd.S_lt (by (with_reducible repeat (first | apply Kd.S_alloc | apply Kd.S_drewN | apply Kd.S_drew)); exact HO380.out))) (below_size (by repeat (first | (with_reducible first | exact HB.out | apply below_alloc | apply pw_below_drewN | apply below_drew1) | exact HB.out)))); have n2_ := Aside0.mk (below_step (by repeat (first | (with_reducible first | exact HB.out | apply below_alloc | apply pw_below_drewN | apply below_drew1) | exact HB.out)) hb); clear HO380; clear HB; have HO380 := n0_; have HO385 := n1_; have HB := n2_; clear n0_ n1_ n2_; (try clear hb); (try clear hb2); (try clear hk); (try clear hi); (try clear ho0); obtain ⟨Ao21, co21, eo21⟩ := Kd.S_slice HO385.out; subst eo21) | ((with_reducible refine gate_callee (f := 29) rfl ?_); refine goesL_ (some 46) rfl rfl Try.func29 (by kernel_rfl) rfl #[.slice Ao21 t383.length co21, .string a1, .string a2, .int .i64 a3, .int .i64 a4] rfl (by (try simp only [List.map_toArray, List.map_cons, List.map_nil]); first | done | rfl | (simp only [List.length_drop, List.length_take]; rfl)) ?_; (with_reducible refine (impl_AverageOf.calls k _ _ t383 a1 a2 a3 a4 t386 t387 _ ?side1 ?side2 A14.out).mono ?_); (case side1 => repeat (first | exact (Kd.S_reads' HO385.out).2.2 | (with_reducible refine Kd.C_alloc ?_ _) | (with_reducible refine Kd.C_drewN ?_ _) | (with_reducible refine Kd.C_drew ?_))); (case side2 => exact (Kd.S_reads' HO385.out).2.1); rintro e w22 ⟨rfl, hb⟩; refine ⟨_, rfl, ?_⟩; have n0_ := Aside0.mk (Kd.S_below (by (with_reducible repeat (first | apply Kd.S_alloc | apply Kd.S_drewN | apply Kd.S_drew)); exact HO380.out) hb); have n1_ := Aside0.mk (Kd.S_below (by (with_reducible repeat (first | apply Kd.S_alloc | apply Kd.S_drewN | apply Kd.S_drew)); exact HO385.out) hb); have n2_ := Aside0.mk (below_step (by repeat (first | (with_reducible first | exact HB.out | apply below_alloc | apply pw_below_drewN | apply below_drew1) | exact HB.out)) hb); clear HO380; clear HO385; clear HB; have HO380 := n0_; have HO385 := n1_; have HB := n2_; clear n0_ n1_ n2_; (try clear hb); (try clear hb2); (try clear hk); (try clear hi)))
       (try simp only [Act.put, List.setIfInBounds_toArray, List.set_cons_zero, List.set_cons_succ])
       go_cut [56] (fun v56 wc => ∃ (kq : Nat) (x56_14 : Bool), v56 = .bool x56_14 ∧ Aside0 (laws_FnExactAverageOf.j0 kq l0 t383 x56_14 = some r) ∧ Aside0 (kq ≤ k) ∧ Aside0 (Kd.S k84 84 wc w.heap.size (fun _ => True) (.slice Ao21 t383.length co21) t383) ∧ Aside0 (Below w.heap.size w wc))
       case first =>
        have H := HC15.out
        clear HC15
        by_cases c23 : t386 = t381
        · rw [if_pos c23] at H
          have c23b0 : (t386 == t381) = true := beq_iff_eq.mpr c23
          have c23b1 : (t386 != t381) = false := bne_eq_false_iff_eq.mpr c23
          clear c23
          (first | rw [c23b0] | (simp only [i64_w, i32_w]; rw [c23b0]) | skip)
          have H' := Aside0.mk H
          clear H
          go_wp2
          go_meet
          case rel => exact ⟨_, ((t387 != t382)), (by first | rfl | (simp; done) | (simp [*]; done)), H', ⟨by first | omega | exact Nat.le_refl _⟩, ⟨by (with_reducible repeat (first | apply Kd.S_alloc | apply Kd.S_drewN | apply Kd.S_drew)); exact Kd.S_mono HO385.out (fun _ hk => trivial)⟩, ⟨by repeat (first | (with_reducible first | exact HB.out | apply below_alloc | apply pw_below_drewN | apply below_drew1) | exact HB.out)⟩⟩
        · rw [if_neg c23] at H
          have c23b0 : (t386 == t381) = false := beq_eq_false_iff_ne.mpr c23
          have c23b1 : (t386 != t381) = true := bne_iff_ne.mpr c23
          (first | rw [c23b0] | (simp only [i64_w, i32_w]; rw [c23b0]) | skip)
          have H' := Aside0.mk H
          clear H
          go_wp2
          go_meet
          case rel => exact ⟨_, (true), (by first | rfl | (simp; done) | (simp [*]; done)), H', ⟨by first | omega | exact Nat.le_refl _⟩, ⟨by (with_reducible repeat (first | apply Kd.S_alloc | apply Kd.S_drewN | apply Kd.S_drew)); exact Kd.S_mono HO385.out (fun _ hk => trivial)⟩, ⟨by repeat (first | (with_reducible first | exact HB.out | apply below_alloc | apply pw_below_drewN | apply below_drew1) | exact HB.out)⟩⟩
       case rest =>
        clear HC15
        try clear c2
        try clear p2
        try clear c5
        try clear c6
        try clear c6b0
        try clear c6b1
        try clear c7
        try clear c7b0
        try clear c7b1
        try clear c9
        try clear c9b0
        try clear c22
        try clear c23
        try clear c23b0
        try clear c23b1
        obtain ⟨kq, x56_14, rfl, HA, HJ14, HO_14, HB⟩ := hcut
        cases kq with
        | zero => exact absurd HA.out (by simp [laws_FnExactAverageOf.j0])
        | succ kj14 =>
         have H := HA.out
         clear HA
         simp only [laws_FnExactAverageOf.j0] at H
         by_cases c24 : x56_14 = true
         · subst c24
           have H1 : (some false) = some r := by rw [if_pos rfl] at H; exact H
           clear H
           have H := H1
           clear H1
           obtain rfl := Option.some.inj H
           go_wp2
           go_ret
           exact ⟨by first | rfl | (simp [errW_none, errW_some] <;> rfl) | (simp [*, errW_none, errW_some] <;> rfl), by repeat (first | (with_reducible first | exact HB.out | apply below_alloc | apply pw_below_drewN | apply below_drew1) | exact HB.out)⟩
         · replace c24 := Bool.eq_false_iff.mpr c24
           subst c24
           have H1 : ((laws_toSeriesS.f kj14 l0).bind fun t388 => ((laws_eqSeriesS.f kj14 t383 t388).bind fun t391 => (if t391 = true then (some true) else (some false)))) = some r := by rw [if_neg (show ¬ (false = true) by decide)] at H; exact H
           clear H
           have H := H1
           clear H1
           replace H := Option.bind_eq_some_iff.mp H
           obtain ⟨t388, A250, H⟩ := H
           replace H : ((laws_eqSeriesS.f kj14 t383 t388).bind fun t391 => (if t391 = true then (some true) else (some false))) = some r := H
           have A25 := Aside0.mk A250
           clear A250
           replace H := Option.bind_eq_some_iff.mp H
           obtain ⟨t391, A260, H⟩ := H
           replace H : (if t391 = true then (some true) else (some false)) = some r := H
           have A26 := Aside0.mk A260
           clear A260
           by_cases c27 : t391 = true
           · subst c27
             have H1 : (some true) = some r := by rw [if_pos rfl] at H; exact H
             clear H
             have H := H1
             clear H1
             obtain rfl := Option.some.inj H
             go_wp2_with (first | ((with_reducible refine gate_callee (f := 24) rfl ?_); refine goesL_ (some 59) rfl rfl Try.func24 (by kernel_rfl) rfl #[.slice A0 l0.length c0] rfl (by (try simp only [List.map_toArray, List.map_cons, List.map_nil]); first | done | rfl | (simp only [List.length_drop, List.length_take]; rfl)) ?_; (with_reducible refine (laws_toSeriesS.calls kj14 _ _ l0 t388 _ ?side1 ?side2 A25.out).mono ?_); (case side1 => repeat (first | exact (Kd.C_below HR0.out HB.out) | (with_reducible refine Kd.C_alloc ?_ _) | (with_reducible refine Kd.C_drewN ?_ _) | (with_reducible refine Kd.C_drew ?_))); (case side2 => exact HC0.out); rintro e w28 ⟨v389, rfl, ho0, hb⟩; refine ⟨_, rfl, ?_⟩; have n0_ := Aside0.mk (Kd.S_elder' (by (with_reducible repeat (first | apply Kd.S_alloc | apply Kd.S_drewN | apply Kd.S_drew)); exact HO_14.out) (Kd.S_base ho0) hb); have n1_ := Aside0.mk (Kd.S_lower (Kd.S_new' ho0 (Kd.S_lt (by (with_reducible repeat (first | apply Kd.S_alloc | apply Kd.S_drewN | apply Kd.S_drew)); exact HO_14.out))) (below_size (by repeat (first | (with_reducible first | exact HB.out | apply below_alloc | apply pw_below_drewN | apply below_drew1) | exact HB.out)))); have n2_ := Aside0.mk (below_step (by repeat (first | (with_reducible first | exact HB.out | apply below_alloc | apply pw_below_drewN | apply below_drew1) | exact HB.out)) hb); clear HO_14; clear HB; have HO_14 := n0_; have HO390 := n1_; have HB := n2_; clear n0_ n1_ n2_; (try clear hb); (try clear hb2); (try clear hk); (try clear hi); (try clear ho0); obtain ⟨Ao29, co29, eo29⟩ := Kd.S_slice HO390.out; subst eo29) | ((with_reducible refine gate_callee (f := 25) rfl ?_); refine goesL_ (some 60) rfl rfl Try.func25 (by kernel_rfl) rfl #[.slice Ao21 t383.length co21, .slice Ao29 t388.length co29] rfl (by (try simp only [List.map_toArray, List.map_cons, List.map_nil]); first | done | rfl | (simp only [List.length_drop, List.length_take]; rfl)) ?_; (with_reducible refine (laws_eqSeriesS.calls kj14 _ _ t383 _ _ t388 true _ ?side1 ?side2 ?side3 ?side4 A26.out).mono ?_); (case side1 => repeat (first | exact (Kd.S_reads' HO_14.out).2.2 | (with_reducible refine Kd.C_alloc ?_ _) | (with_reducible refine Kd.C_drewN ?_ _) | (with_reducible refine Kd.C_drew ?_))); (case side2 => exact (Kd.S_reads' HO_14.out).2.1); (case side3 => repeat (first | exact (Kd.S_reads' HO390.out).2.2 | (with_reducible refine Kd.C_alloc ?_ _) | (with_reducible refine Kd.C_drewN ?_ _) | (with_reducible refine Kd.C_drew ?_))); (case side4 => exact (Kd.S_reads' HO390.out).2.1); rintro e w30 ⟨rfl, hb⟩; refine ⟨_, rfl, ?_⟩; have n0_ := Aside0.mk (Kd.S_below (by (with_reducible repeat (first | apply Kd.S_alloc | apply Kd.S_drewN | apply Kd.S_drew)); exact HO_14.out) hb); have n1_ := Aside0.mk (Kd.S_below (by (with_reducible repeat (first | apply Kd.S_alloc | apply Kd.S_drewN | apply Kd.S_drew)); exact HO390.out) hb); have n2_ := Aside0.mk (below_step (by repeat (first | (with_reducible first | exact HB.out | apply below_alloc | apply pw_below_drewN | apply below_drew1) | exact HB.out)) hb); clear HO_14; clear HO390; clear HB; have HO_14 := n0_; have HO390 := n1_; have HB := n2_; clear n0_ n1_ n2_; (try clear hb); (try clear hb2); (try clear hk); (try clear hi)))
             go_ret
             exact ⟨by first | rfl | (simp [errW_none, errW_some] <;> rfl) | (simp [*, errW_none, errW_some] <;> rfl), by repeat (first | (with_reducible first | exact HB.out | apply below_alloc | apply pw_below_drewN | apply below_drew1) | exact HB.out)⟩
           · replace c27 := Bool.eq_false_iff.mpr c27
             subst c27
             have H1 : (some false) = some r := by rw [if_neg (show ¬ (false = true) by decide)] at H; exact H
             clear H
             have H := H1
             clear H1
             obtain rfl := Option.some.inj H
             go_wp2_with (first | ((with_reducible refine gate_callee (f := 24) rfl ?_); refine goesL_ (some 59) rfl rfl Try.func24 (by kernel_rfl) rfl #[.slice A0 l0.length c0] rfl (by (try simp only [List.map_toArray, List.map_cons, List.map_nil]); first | done | rfl | (simp only [List.length_drop, List.length_take]; rfl)) ?_; (with_reducible refine (laws_toSeriesS.calls kj14 _ _ l0 t388 _ ?side1 ?side2 A25.out).mono ?_); (case side1 => repeat (first | exact (Kd.C_below HR0.out HB.out) | (with_reducible refine Kd.C_alloc ?_ _) | (with_reducible refine Kd.C_drewN ?_ _) | (with_reducible refine Kd.C_drew ?_))); (case side2 => exact HC0.out); rintro e w31 ⟨v389, rfl, ho0, hb⟩; refine ⟨_, rfl, ?_⟩; have n0_ := Aside0.mk (Kd.S_elder' (by (with_reducible repeat (first | apply Kd.S_alloc | apply Kd.S_drewN | apply Kd.S_drew)); exact HO_14.out) (Kd.S_base ho0) hb); have n1_ := Aside0.mk (Kd.S_lower (Kd.S_new' ho0 (Kd.S_lt (by (with_reducible repeat (first | apply Kd.S_alloc | apply Kd.S_drewN | apply Kd.S_drew)); exact HO_14.out))) (below_size (by repeat (first | (with_reducible first | exact HB.out | apply below_alloc | apply pw_below_drewN | apply below_drew1) | exact HB.out)))); have n2_ := Aside0.mk (below_step (by repeat (first | (with_reducible first | exact HB.out | apply below_alloc | apply pw_below_drewN | apply below_drew1) | exact HB.out)) hb); clear HO_14; clear HB; have HO_14 := n0_; have HO390 := n1_; have HB := n2_; clear n0_ n1_ n2_; (try clear hb); (try clear hb2); (try clear hk); (try clear hi); (try clear ho0); obtain ⟨Ao32, co32, eo32⟩ := Kd.S_slice HO390.out; subst eo32) | ((with_reducible refine gate_callee (f := 25) rfl ?_); refine goesL_ (some 60) rfl rfl Try.func25 (by kernel_rfl) rfl #[.slice Ao21 t383.length co21, .slice Ao32 t388.length co32] rfl (by (try simp only [List.map_toArray, List.map_cons, List.map_nil]); first | done | rfl | (simp only [List.length_drop, List.length_take]; rfl)) ?_; (with_reducible refine (laws_eqSeriesS.calls kj14 _ _ t383 _ _ t388 false _ ?side1 ?side2 ?side3 ?side4 A26.out).mono ?_); (case side1 => repeat (first | exact (Kd.S_reads' HO_14.out).2.2 | (with_reducible refine Kd.C_alloc ?_ _) | (with_reducible refine Kd.C_drewN ?_ _) | (with_reducible refine Kd.C_drew ?_))); (case side2 => exact (Kd.S_reads' HO_14.out).2.1); (case side3 => repeat (first | exact (Kd.S_reads' HO390.out).2.2 | (with_reducible refine Kd.C_alloc ?_ _) | (with_reducible refine Kd.C_drewN ?_ _) | (with_reducible refine Kd.C_drew ?_))); (case side4 => exact (Kd.S_reads' HO390.out).2.1); rintro e w33 ⟨rfl, hb⟩; refine ⟨_, rfl, ?_⟩; have n0_ := Aside0.mk (Kd.S_below (by (with_reducible repeat (first | apply Kd.S_alloc | apply Kd.S_drewN | apply Kd.S_drew)); exact HO_14.out) hb); have n1_ := Aside0.mk (Kd.S_below (by (with_reducible repeat (first | apply Kd.S_alloc | apply Kd.S_drewN | apply Kd.S_drew)); exact HO390.out) hb); have n2_ := Aside0.mk (below_step (by repeat (first | (with_reducible first | exact HB.out | apply below_alloc | apply pw_below_drewN | apply below_drew1) | exact HB.out)) hb); clear HO_14; clear HO390; clear HB; have HO_14 := n0_; have HO390 := n1_; have HB := n2_; clear n0_ n1_ n2_; (try clear hb); (try clear hb2); (try clear hk); (try clear hi)))
             go_ret
             exact ⟨by first | rfl | (simp [errW_none, errW_some] <;> rfl) | (simp [*, errW_none, errW_some] <;> rfl), by repeat (first | (with_reducible first | exact HB.out | apply below_alloc | apply pw_below_drewN | apply below_drew1) | exact HB.out)⟩

end Go.Proofs.Ytklbbgilfahjhaa.Q
namespace Go.Proofs.Ytklbbgilfahjhaa.Q
open Go.RowKit Go.Proofs.YtklbbgilfahjhaaW.PrintWords Go.Proofs.YtklbbgilfahjhaaW.PrintLast
theorem wrapn (n : Nat) (h : n < 4611686018427387904) : wrap64 ((n : Int) + 1) = ((n + 1 : Nat) : Int) := by unfold wrap64; omega
theorem lt_mid {α : Type} (pre suf : List α) (x : α) : (pre.length : Int) < ((pre ++ x :: suf).length : Int) := by simp; omega
theorem nn (n : Nat) : (0 : Int) ≤ (n : Int) := Int.natCast_nonneg n
theorem data_size (s : ByteArray) : s.size = s.data.toList.length := by rw [Array.length_toList]; rfl
theorem bt_mid {s : ByteArray} {pre suf : List UInt8} {b : UInt8} (h : s.data.toList = pre ++ b :: suf) : bt s (pre.length : Int) = (b.toNat : Int) := by
  have hl : pre.length < s.size := by rw [data_size, h]; simp
  have e : s[pre.length] = b := by
    have h1 : s.data.toList[pre.length]? = some b := by rw [h]; simp
    have h2 : s.data.toList[pre.length]? = some (s.data[pre.length]) := by rw [Array.getElem?_toList]; exact Array.getElem?_eq_getElem hl
    have h3 := h2.symm.trans h1
    exact Option.some.inj h3
  simp [bt, hl, e]
theorem toList_data (s : ByteArray) : s.toList = s.data.toList := Lib.toList_data s
def inB (x lo hi : Int) : Bool := decide (lo ≤ x) && decide (x ≤ hi)
theorem l01In_v (x lo hi : Int) : spec_l01In.f x lo hi = some (inB x lo hi) := by
  unfold spec_l01In.f inB
  by_cases h : lo ≤ x <;> simp [h]
theorem in_v (x lo hi : Int) : impl_in.f x lo hi = some (inB x lo hi) := by
  unfold impl_in.f inB
  by_cases h : lo ≤ x <;> simp [h]
def isNm (b : UInt8) : Bool := (decide (97 ≤ (b.toNat : Int)) && decide ((b.toNat : Int) ≤ 122)) || (decide (48 ≤ (b.toNat : Int)) && decide ((b.toNat : Int) ≤ 57))
def nameOk (s : ByteArray) : Bool := inB (s.size : Int) 1 12 && s.data.toList.all isNm
theorem spec_NameOk_l0_ev (s : ByteArray) (hs : s.size < 4611686018427387904) : ∀ suf pre, s.data.toList = pre ++ suf → Ev (fun k => spec_NameOk.l0 k s (pre.length : Int)) (suf.all isNm) := by
  intro suf
  induction suf with
  | nil =>
    intro pre h
    refine Ev.step (fun k => by rw [spec_NameOk.l0]) ?_
    have hlt : ¬ ((pre.length : Int) < (s.size : Int)) := by rw [data_size, h]; simp
    simp only [if_neg hlt]
    exact Ev.now _
  | cons b suf ih =>
    intro pre h
    refine Ev.step (fun k => by rw [spec_NameOk.l0]) ?_
    have hlt : ((pre.length : Int) < (s.size : Int)) := by rw [data_size, h]; exact lt_mid _ _ _
    have hl : pre.length < s.size := by omega
    have hw := wrapn pre.length (by omega)
    have hr := ih (pre ++ [b]) (by rw [h]; simp)
    rw [List.length_append, List.length_singleton] at hr
    simp only [if_pos hlt, if_pos (nn _), bt_mid h, hw]
    by_cases c1 : (b.toNat : Int) < 97 <;> by_cases c2 : (b.toNat : Int) > 122 <;> by_cases c3 : (b.toNat : Int) < 48 <;> by_cases c4 : (b.toNat : Int) > 57 <;> simp only [c1, c2, c3, c4, if_true, if_false, List.all_cons]
    all_goals first
      | (have e : isNm b = true := by (simp only [isNm, Bool.or_eq_true, Bool.and_eq_true, decide_eq_true_eq]; omega)
         rw [e, Bool.true_and]; exact hr)
      | (have e : isNm b = false := by (simp only [isNm, Bool.or_eq_false_iff, Bool.and_eq_false_iff, decide_eq_false_iff_not]; omega)
         rw [e, Bool.false_and]; exact Ev.now _)
theorem spec_NameOk_ev (s : ByteArray) : Ev (fun k => spec_NameOk.f k s) (nameOk s) := by
  unfold spec_NameOk.f nameOk
  simp only [l01In_v, Option.bind_some]
  cases h : inB (s.size : Int) 1 12 with
  | false => simp only [if_neg (show ¬ (false = true) by decide), Bool.false_and]; exact Ev.now _
  | true =>
    simp only [if_pos, Bool.true_and]
    have hs : s.size < 4611686018427387904 := by simp only [inB, Bool.and_eq_true, decide_eq_true_eq] at h; omega
    exact spec_NameOk_l0_ev s hs _ [] rfl
theorem impl_NameOk_l0_ev (s : ByteArray) (hs : s.size < 4611686018427387904) : ∀ suf pre, s.data.toList = pre ++ suf → Ev (fun k => impl_NameOk.l0 k s (s.size : Int) (pre.length : Int)) (suf.all isNm && inB (s.size : Int) 1 12) := by
  intro suf
  induction suf with
  | nil =>
    intro pre h
    refine Ev.step (fun k => by rw [impl_NameOk.l0]) ?_
    have hlt : ¬ ((pre.length : Int) < (s.size : Int)) := by rw [data_size, h]; simp
    simp only [if_neg hlt, in_v, Option.bind_some, List.all_nil, Bool.true_and]
    exact Ev.now _
  | cons b suf ih =>
    intro pre h
    refine Ev.step (fun k => by rw [impl_NameOk.l0]) ?_
    have hlt : ((pre.length : Int) < (s.size : Int)) := by rw [data_size, h]; exact lt_mid _ _ _
    have hl : pre.length < s.size := by omega
    have hw := wrapn pre.length (by omega)
    have hr := ih (pre ++ [b]) (by rw [h]; simp)
    rw [List.length_append, List.length_singleton] at hr
    simp only [if_pos hlt, if_pos (nn _), bt_mid h, hw]
    by_cases c1 : (b.toNat : Int) < 97 <;> by_cases c2 : (b.toNat : Int) > 122 <;> by_cases c3 : (b.toNat : Int) < 48 <;> by_cases c4 : (b.toNat : Int) > 57 <;> simp only [c1, c2, c3, c4, if_true, if_false, List.all_cons]
    all_goals first
      | (have e : isNm b = true := by (simp only [isNm, Bool.or_eq_true, Bool.and_eq_true, decide_eq_true_eq]; omega)
         rw [e, Bool.true_and]; exact hr)
      | (have e : isNm b = false := by (simp only [isNm, Bool.or_eq_false_iff, Bool.and_eq_false_iff, decide_eq_false_iff_not]; omega)
         rw [e, Bool.false_and, Bool.false_and]; exact Ev.now _)
theorem impl_NameOk_ev (s : ByteArray) (hs : s.size < 4611686018427387904) : Ev (fun k => impl_NameOk.f k s) (nameOk s) := by
  unfold impl_NameOk.f nameOk
  rw [Bool.and_comm]
  exact impl_NameOk_l0_ev s hs _ [] rfl
def lessB (a b : ByteArray) : Bool := Op.bytesLess a.toList b.toList
theorem spec_l02Less_l0_ev (s t : ByteArray) (hs : s.size < 4611686018427387904) : ∀ sa sb pa pb, pa.length = pb.length → s.data.toList = pa ++ sa → t.data.toList = pb ++ sb → Ev (fun k => spec_l02Less.l0 k s t (pa.length : Int)) (if sa.length = 0 ∨ sb.length = 0 then decide (s.size < t.size) else Op.bytesLess sa sb) := by
  intro sa
  induction sa with
  | nil =>
    intro sb pa pb hp h h'
    refine Ev.step (fun k => by rw [spec_l02Less.l0]) ?_
    have hlt : ¬ ((pa.length : Int) < (s.size : Int)) := by rw [data_size, h]; simp
    simp only [if_neg hlt]
    refine Ev.step (fun k => by rw [spec_l02Less.j1]) ?_
    simp only [if_neg (show ¬ (false = true) by decide), List.length_nil, true_or, if_true]
    rw [show decide ((s.size : Int) < (t.size : Int)) = decide (s.size < t.size) from by simp]
    exact Ev.now _
  | cons a sa ih =>
    intro sb pa pb hp h h'
    refine Ev.step (fun k => by rw [spec_l02Less.l0]) ?_
    have hlt : ((pa.length : Int) < (s.size : Int)) := by rw [data_size, h]; exact lt_mid _ _ _
    simp only [if_pos hlt]
    refine Ev.step (fun k => by rw [spec_l02Less.j1]) ?_
    cases sb with
    | nil =>
      have hlt2 : ¬ ((pa.length : Int) < (t.size : Int)) := by rw [data_size, h', hp]; simp
      simp only [hlt2, decide_false, if_neg (show ¬ (false = true) by decide), List.length_nil, or_true, if_true]
      rw [show decide ((s.size : Int) < (t.size : Int)) = decide (s.size < t.size) from by simp]
      exact Ev.now _
    | cons b sb =>
      have hlt2 : ((pa.length : Int) < (t.size : Int)) := by rw [data_size, h', hp]; exact lt_mid _ _ _
      have hl : pa.length < s.size := by omega
      have hw := wrapn pa.length (by omega)
      have hb2 : bt t (pa.length : Int) = (b.toNat : Int) := by rw [hp]; exact bt_mid h'
      simp only [hlt2, decide_true, if_true, if_pos (nn _), hlt, bt_mid h, hb2, hw]
      have hr := ih sb (pa ++ [a]) (pb ++ [b]) (by simp [hp]) (by rw [h]; simp) (by rw [h']; simp)
      rw [List.length_append, List.length_singleton] at hr
      by_cases c : (a.toNat : Int) = (b.toNat : Int)
      · obtain rfl : a = b := UInt8.toNat_inj.1 (by omega)
        simp only [if_true, List.length_cons]
        have e : Op.bytesLess (a :: sa) (a :: sb) = Op.bytesLess sa sb := by simp [Op.bytesLess, UInt8.lt_irrefl]
        rw [if_neg (by omega), e]
        by_cases d : sa.length = 0 ∨ sb.length = 0
        · rw [if_pos d] at hr
          have : Op.bytesLess sa sb = decide (s.size < t.size) := by
            have h1 : s.size = pa.length + 1 + sa.length := by rw [data_size, h]; simp; omega
            have h2 : t.size = pa.length + 1 + sb.length := by rw [data_size, h', hp]; simp; omega
            rw [h1, h2]
            cases sa with
            | nil => cases sb <;> simp [Op.bytesLess]
            | cons x xs =>
              cases sb with
              | nil => simp [Op.bytesLess]
              | cons y ys => simp at d
          rw [this]
          exact hr
        · rw [if_neg d] at hr
          exact hr
      · simp only [c, if_false, List.length_cons]
        rw [if_neg (by omega)]
        have e : Op.bytesLess (a :: sa) (b :: sb) = decide ((a.toNat : Int) < (b.toNat : Int)) := by
          have hne : ¬ (a = b) := fun h => c (by rw [h])
          simp [Op.bytesLess, hne, UInt8.lt_iff_toNat_lt]
        rw [e]
        exact Ev.now _
theorem spec_l02Less_ev (s t : ByteArray) (hs : s.size < 4611686018427387904) : Ev (fun k => spec_l02Less.f k s t) (lessB s t) := by
  unfold spec_l02Less.f lessB
  rw [toList_data, toList_data]
  have h := spec_l02Less_l0_ev s t hs s.data.toList t.data.toList [] [] rfl rfl rfl
  by_cases d : s.data.toList.length = 0 ∨ t.data.toList.length = 0
  · rw [if_pos d] at h
    have : Op.bytesLess s.data.toList t.data.toList = decide (s.size < t.size) := by
      rw [data_size, data_size]
      cases hs : s.data.toList with
      | nil => cases ht : t.data.toList <;> simp [Op.bytesLess]
      | cons x xs =>
        cases ht : t.data.toList with
        | nil => simp [Op.bytesLess]
        | cons y ys => simp [hs, ht] at d
    rw [this]
    exact h
  · rw [if_neg d] at h
    exact h
def befB (a b c d : ByteArray) : Bool := if a.toList = c.toList then lessB b d else lessB a c
theorem spec_l03Before_ev (a b c d : ByteArray) (ha : a.size < 4611686018427387904) (hb : b.size < 4611686018427387904) : Ev (fun k => spec_l03Before.f k a b c d) (befB a b c d) := by
  unfold spec_l03Before.f befB
  by_cases h : a.toList = c.toList
  · simp only [h, if_true]
    exact Ev.bind (spec_l02Less_ev b d hb) (Ev.now _)
  · simp only [h, if_false]
    exact Ev.bind (spec_l02Less_ev a c ha) (Ev.now _)
theorem less_irrefl : ∀ l : List UInt8, Op.bytesLess l l = false
  | [] => rfl
  | a :: l => by simp [Op.bytesLess, less_irrefl l, UInt8.lt_irrefl]
theorem cmp_Or_int_ev (x y : Int) : Ev (fun k => cmp_Or_int.f k [x, y]) (if x = 0 then y else x) := by
  unfold cmp_Or_int.f
  have w1 : wrap64 (0 + 1) = 1 := by unfold wrap64; omega
  have w2 : wrap64 (1 + 1) = 2 := by unfold wrap64; omega
  refine Ev.step (fun k => by rw [cmp_Or_int.l0]) ?_
  have r0 : rd [x, y] 0 = x := rfl
  have r1 : rd [x, y] 1 = y := rfl
  have l2 : (([x, y] : List Int).length : Int) = 2 := rfl
  simp only [l2, r0, w1, show (0 : Int) < 2 from by decide, show (0 : Int) ≤ 0 from by decide, if_true]
  by_cases hx : x = 0
  · simp only [hx, if_true]
    refine Ev.step (fun k => by rw [cmp_Or_int.l0]) ?_
    have r1' : rd [0, y] 1 = y := rfl
    have l2' : (([0, y] : List Int).length : Int) = 2 := rfl
    simp only [l2', r1', w2, show (1 : Int) < 2 from by decide, show (0 : Int) ≤ 1 from by decide, if_true]
    by_cases hy : y = 0
    · simp only [hy, if_true]
      refine Ev.step (fun k => by rw [cmp_Or_int.l0]) ?_
      simp only [show ¬ ((2 : Int) < 2) from by decide, if_false]
      exact Ev.now _
    · simp only [hy, if_false]
      exact Ev.now _
  · simp only [hx, if_false]
    exact Ev.now _
def cmpS (a b c d : ByteArray) : Int := if cmpB a c = 0 then cmpB b d else cmpB a c
theorem impl_compare_ev (a b : ByteArray) (ps : List S37) (c d : ByteArray) : Ev (fun k => impl_Series_compare.f k a b ps c d) (cmpS a b c d) := by
  unfold impl_Series_compare.f cmpS
  simp only [cmp_Compare_string.f, Option.bind_some]
  exact Ev.bind (cmp_Or_int_ev _ _) (Ev.now _)
theorem cmpB_zero (a b : ByteArray) : cmpB a b = 0 ↔ a.toList = b.toList := by
  unfold cmpB
  by_cases h : Op.bytesLess a.toList b.toList = true
  · rw [if_pos h]
    refine ⟨(fun h => by cases h), fun e => ?_⟩
    rw [e, less_irrefl] at h
    cases h
  · rw [if_neg h]
    by_cases e : a.toList = b.toList <;> simp [e]
theorem cmpB_neg (a b : ByteArray) : cmpB a b < 0 ↔ lessB a b = true := by
  unfold cmpB lessB
  by_cases h : Op.bytesLess a.toList b.toList = true
  · simp [h]
  · rw [if_neg h]
    by_cases e : (a.toList == b.toList) = true <;> simp [e, h]
theorem cmpS_neg (a b c d : ByteArray) : decide (cmpS a b c d ≥ 0) = !befB a b c d := by
  unfold cmpS befB
  by_cases h : a.toList = c.toList
  · rw [if_pos ((cmpB_zero a c).2 h), if_pos h]
    have := cmpB_neg b d
    cases hl : lessB b d with
    | true => rw [hl] at this; simp; exact this.2 rfl
    | false => rw [hl] at this; simp; have h2 : ¬ (cmpB b d < 0) := fun h => by cases this.1 h
               omega
  · rw [if_neg (fun h2 => h ((cmpB_zero a c).1 h2)), if_neg h]
    have := cmpB_neg a c
    cases hl : lessB a c with
    | true => rw [hl] at this; simp; exact this.2 rfl
    | false => rw [hl] at this; simp; have h2 : ¬ (cmpB a c < 0) := fun h => by cases this.1 h
               omega
end Go.Proofs.Ytklbbgilfahjhaa.Q
namespace Go.Proofs.Ytklbbgilfahjhaa.Q
open Go.RowKit Go.Proofs.YtklbbgilfahjhaaW.PrintWords Go.Proofs.YtklbbgilfahjhaaW.PrintLast
def ptsFrom : Option Int → List S37 → Bool
  | _, [] => true
  | prev, p :: r => inB p.f0 0 1000000000 && inB p.f1 0 1000000000 && (match prev with | none => true | some a => decide (a < p.f0)) && ptsFrom (some p.f0) r
def serOk (s : S84) : Bool := nameOk s.f0 && nameOk s.f1 && inB (s.f2.length : Int) 1 12 && ptsFrom none s.f2
def stFrom : Option S84 → List S84 → Bool
  | _, [] => true
  | prev, s :: r => serOk s && (match prev with | none => true | some q => befB q.f0 q.f1 s.f0 s.f1) && stFrom (some s) r
def storeOk (l : List S84) : Bool := decide ((l.length : Int) ≤ 24) && stFrom none l
def fitS (s : S84) : Prop := s.f0.size < 4611686018427387904 ∧ s.f1.size < 4611686018427387904 ∧ s.f2.length < 4611686018427387904
theorem isTick_v (x : Int) : impl_isTick.f x = some (inB x 0 1000000000) := by simp [impl_isTick.f, in_v]
theorem isSize_v (x : Int) : impl_isSize.f x = some (inB x 0 1000000000) := by simp [impl_isSize.f, in_v]
theorem l02Tick_v (x : Int) : spec_l02Tick.f x = some (inB x 0 1000000000) := by simp [spec_l02Tick.f, l01In_v]
theorem l01Amt_v (x : Int) : spec_l01Amt.f x = some (inB x 0 1000000000) := by simp [spec_l01Amt.f, l01In_v]
theorem rdP_mid (pre suf : List S37) (p : S37) : rd_T37 (pre ++ p :: suf) (pre.length : Int) = p := by simp [rd_T37]
theorem rdS_mid (pre suf : List S84) (p : S84) : rd_T84 (pre ++ p :: suf) (pre.length : Int) = p := by simp [rd_T84]
theorem wrap_pred (n : Nat) (h : n < 4611686018427387904) : wrap64 (((n + 1 : Nat) : Int) - 1) = (n : Int) := by unfold wrap64; omega
theorem no_ft : ¬ (false = true) := by decide
theorem wrap_small (x : Int) (h : -4611686018427387904 ≤ x) (h2 : x ≤ 4611686018427387904) : wrap64 x = x := by unfold wrap64; omega
theorem impl_Series_ok_l0_ev (a b : ByteArray) (ha : a.size < 4611686018427387904) (hb : b.size < 4611686018427387904) (ps : List S37) (hp : ps.length < 4611686018427387904) : ∀ suf pre, ps = pre ++ suf → Ev (fun k => impl_Series_ok.l0 k ps (ps.length : Int) (pre.length : Int) a b ps) (ptsFrom (pre.getLast?.map (·.f0)) suf && (nameOk a && nameOk b && inB (ps.length : Int) 1 12)) := by
  intro suf
  induction suf with
  | nil =>
    intro pre h
    refine Ev.step (fun k => by rw [impl_Series_ok.l0]) ?_
    have hlt : ¬ ((pre.length : Int) < (ps.length : Int)) := by rw [h]; simp
    simp only [if_neg hlt, ptsFrom, Bool.true_and]
    refine Ev.bind (impl_NameOk_ev a ha) ?_
    cases nameOk a
    · simp only [if_neg no_ft, Bool.false_and]; exact Ev.now _
    · simp only [if_true, Bool.true_and]
      refine Ev.bind (impl_NameOk_ev b hb) ?_
      cases nameOk b
      · simp only [if_neg no_ft, Bool.false_and]; exact Ev.now _
      · simp only [if_true, Bool.true_and, in_v, Option.bind_some]; exact Ev.now _
  | cons p suf ih =>
    intro pre h
    refine Ev.step (fun k => by rw [impl_Series_ok.l0]) ?_
    have hlt : ((pre.length : Int) < (ps.length : Int)) := by rw [h]; exact lt_mid _ _ _
    have hl : pre.length < ps.length := by omega
    have hw := wrapn pre.length (by omega)
    have hr := ih (pre ++ [p]) (by rw [h]; simp)
    rw [List.length_append, List.length_singleton, List.getLast?_concat, Option.map_some] at hr
    have hrd : rd_T37 ps (pre.length : Int) = p := by rw [h]; exact rdP_mid _ _ _
    simp only [if_pos hlt, if_pos (nn _), hrd, hw, isTick_v, isSize_v, Option.bind_some, ptsFrom]
    cases inB p.f0 0 1000000000
    · simp only [if_neg no_ft, Bool.false_and]; exact Ev.now _
    · simp only [if_true, Bool.true_and]
      cases inB p.f1 0 1000000000
      · simp only [if_neg no_ft, Bool.false_and]; exact Ev.now _
      · simp only [if_true, Bool.true_and]
        rcases List.eq_nil_or_concat pre with rfl | ⟨pre', q, rfl⟩
        · simp only [List.length_nil, List.getLast?_nil, Option.map_none, Bool.true_and]
          simp only [show ¬ (((0 : Nat) : Int) > 0) from by decide, if_false]
          exact hr
        · rw [List.concat_eq_append] at *
          simp only [List.length_append, List.length_singleton, List.getLast?_concat, Option.map_some] at *
          have hwp := wrap_pred pre'.length (by omega)
          have hq : rd_T37 ps (pre'.length : Int) = q := by rw [h]; rw [List.append_assoc]; exact rdP_mid _ _ _
          have h1 : (((pre'.length + 1 : Nat)) : Int) > 0 := by omega
          have h2 : ((pre'.length : Nat) : Int) < (ps.length : Int) := by omega
          simp only [h1, if_true, hwp, if_pos (nn _), h2, hq]
          by_cases c : q.f0 ≥ p.f0
          · simp only [c, if_true, show decide (q.f0 < p.f0) = false from by simp; omega, Bool.false_and]; exact Ev.now _
          · simp only [c, if_false, show decide (q.f0 < p.f0) = true from by simp; omega, Bool.true_and]; exact hr
theorem impl_Series_ok_ev (s : S84) (h : fitS s) : Ev (fun k => impl_Series_ok.f k s.f0 s.f1 s.f2) (serOk s) := by
  unfold impl_Series_ok.f serOk
  have := impl_Series_ok_l0_ev s.f0 s.f1 h.1 h.2.1 s.f2 h.2.2 s.f2 [] rfl
  rw [Bool.and_comm]
  exact this
theorem impl_StoreOk_l0_ev (xs : List S84) (hx : xs.length < 4611686018427387904) (hf : ∀ s ∈ xs, fitS s) : ∀ suf pre, xs = pre ++ suf → Ev (fun k => impl_StoreOk.l0 k xs xs (xs.length : Int) (pre.length : Int)) (stFrom pre.getLast? suf && decide ((xs.length : Int) ≤ 24)) := by
  intro suf
  induction suf with
  | nil =>
    intro pre h
    refine Ev.step (fun k => by rw [impl_StoreOk.l0]) ?_
    have hlt : ¬ ((pre.length : Int) < (xs.length : Int)) := by rw [h]; simp
    simp only [if_neg hlt, stFrom, Bool.true_and]
    exact Ev.now _
  | cons s suf ih =>
    intro pre h
    refine Ev.step (fun k => by rw [impl_StoreOk.l0]) ?_
    have hlt : ((pre.length : Int) < (xs.length : Int)) := by rw [h]; exact lt_mid _ _ _
    have hl : pre.length < xs.length := by omega
    have hw := wrapn pre.length (by omega)
    have hr := ih (pre ++ [s]) (by rw [h]; simp)
    rw [List.length_append, List.length_singleton, List.getLast?_concat] at hr
    have hrd : rd_T84 xs (pre.length : Int) = s := by rw [h]; exact rdS_mid _ _ _
    simp only [if_pos hlt, if_pos (nn _), hrd, hw, stFrom]
    refine Ev.bind (impl_Series_ok_ev s (hf s (by rw [h]; simp))) ?_
    cases serOk s
    · simp only [if_neg no_ft, Bool.false_and]; exact Ev.now _
    · simp only [if_true, Bool.true_and]
      rcases List.eq_nil_or_concat pre with rfl | ⟨pre', q, rfl⟩
      · simp only [List.length_nil, List.getLast?_nil, Bool.true_and]
        simp only [show ¬ (((0 : Nat) : Int) > 0) from by decide, if_false]
        exact hr
      · rw [List.concat_eq_append] at *
        simp only [List.length_append, List.length_singleton, List.getLast?_concat] at *
        have hwp := wrap_pred pre'.length (by omega)
        have hq : rd_T84 xs (pre'.length : Int) = q := by rw [h]; rw [List.append_assoc]; exact rdS_mid _ _ _
        have h1 : (((pre'.length + 1 : Nat)) : Int) > 0 := by omega
        have h2 : ((pre'.length : Nat) : Int) < (xs.length : Int) := by omega
        simp only [h1, if_true, hwp, if_pos (nn _), h2, hq]
        refine Ev.bind (impl_compare_ev q.f0 q.f1 q.f2 s.f0 s.f1) ?_
        have hc := cmpS_neg q.f0 q.f1 s.f0 s.f1
        cases hb : befB q.f0 q.f1 s.f0 s.f1
        · rw [hb] at hc
          simp only [of_decide_eq_true hc, if_true, Bool.false_and]; exact Ev.now _
        · rw [hb] at hc
          simp only [of_decide_eq_false hc, if_false, Bool.true_and]; exact hr
theorem impl_StoreOk_ev (xs : List S84) (hx : xs.length < 4611686018427387904) (hf : ∀ s ∈ xs, fitS s) : Ev (fun k => impl_StoreOk.f k xs) (storeOk xs) := by
  unfold impl_StoreOk.f storeOk
  have := impl_StoreOk_l0_ev xs hx hf xs [] rfl
  rw [Bool.and_comm]
  exact this
theorem spec_StoreOk_l1_ev (xs : List S84) (i : Int) (a b : ByteArray) (ps : List S37) (hp : ps.length < 4611686018427387904) (R : Bool) (hR : Ev (fun k => spec_StoreOk.l0 k xs (wrap64 (i + 1))) R) : ∀ suf pre, ps = pre ++ suf → Ev (fun k => spec_StoreOk.l1 k xs i (pre.length : Int) a b ps) (ptsFrom (pre.getLast?.map (·.f0)) suf && R) := by
  intro suf
  induction suf with
  | nil =>
    intro pre h
    refine Ev.step (fun k => by rw [spec_StoreOk.l1]) ?_
    have hlt : ¬ ((pre.length : Int) < (ps.length : Int)) := by rw [h]; simp
    simp only [if_neg hlt, ptsFrom, Bool.true_and]
    exact hR
  | cons p suf ih =>
    intro pre h
    refine Ev.step (fun k => by rw [spec_StoreOk.l1]) ?_
    have hlt : ((pre.length : Int) < (ps.length : Int)) := by rw [h]; exact lt_mid _ _ _
    have hl : pre.length < ps.length := by omega
    have hw := wrapn pre.length (by omega)
    have hr := ih (pre ++ [p]) (by rw [h]; simp)
    rw [List.length_append, List.length_singleton, List.getLast?_concat, Option.map_some] at hr
    have hrd : rd_T37 ps (pre.length : Int) = p := by rw [h]; exact rdP_mid _ _ _
    simp only [if_pos hlt, if_pos (nn _), hrd, hw, l02Tick_v, l01Amt_v, Option.bind_some, ptsFrom]
    cases inB p.f0 0 1000000000
    · simp only [if_neg no_ft, Bool.false_and]; exact Ev.now _
    · simp only [if_true, Bool.true_and]
      cases inB p.f1 0 1000000000
      · simp only [if_neg no_ft, Bool.false_and]; exact Ev.now _
      · simp only [if_true, Bool.true_and]
        rcases List.eq_nil_or_concat pre with rfl | ⟨pre', q, rfl⟩
        · simp only [List.length_nil, List.getLast?_nil, Option.map_none, Bool.true_and]
          simp only [show ¬ (((0 : Nat) : Int) > 0) from by decide, if_false]
          exact hr
        · rw [List.concat_eq_append] at *
          simp only [List.length_append, List.length_singleton, List.getLast?_concat, Option.map_some] at *
          have hwp := wrap_pred pre'.length (by omega)
          have hq : rd_T37 ps (pre'.length : Int) = q := by rw [h]; rw [List.append_assoc]; exact rdP_mid _ _ _
          have h1 : (((pre'.length + 1 : Nat)) : Int) > 0 := by omega
          have h2 : ((pre'.length : Nat) : Int) < (ps.length : Int) := by omega
          simp only [h1, if_true, hwp, if_pos (nn _), h2, hq]
          by_cases c : q.f0 ≥ p.f0
          · simp only [c, if_true, show decide (q.f0 < p.f0) = false from by simp; omega, Bool.false_and]; exact Ev.now _
          · simp only [c, if_false, show decide (q.f0 < p.f0) = true from by simp; omega, Bool.true_and]; exact hr
theorem spec_j1_true (xs : List S84) (i : Int) (a b : ByteArray) (ps : List S37) : Ev (fun k => spec_StoreOk.j1 k xs i true a b ps) false := by
  refine Ev.step (fun k => by rw [spec_StoreOk.j1]) ?_
  simp only [if_true]
  exact Ev.now _
theorem spec_StoreOk_l0_ev (xs : List S84) (hx : xs.length < 4611686018427387904) (hf : ∀ s ∈ xs, fitS s) : ∀ suf pre, xs = pre ++ suf → Ev (fun k => spec_StoreOk.l0 k xs (pre.length : Int)) (stFrom pre.getLast? suf) := by
  intro suf
  induction suf with
  | nil =>
    intro pre h
    refine Ev.step (fun k => by rw [spec_StoreOk.l0]) ?_
    have hlt : ¬ ((pre.length : Int) < (xs.length : Int)) := by rw [h]; simp
    simp only [if_neg hlt, stFrom]
    exact Ev.now _
  | cons s suf ih =>
    intro pre h
    refine Ev.step (fun k => by rw [spec_StoreOk.l0]) ?_
    have hlt : ((pre.length : Int) < (xs.length : Int)) := by rw [h]; exact lt_mid _ _ _
    have hl : pre.length < xs.length := by omega
    have hw := wrapn pre.length (by omega)
    have hr := ih (pre ++ [s]) (by rw [h]; simp)
    rw [List.length_append, List.length_singleton, List.getLast?_concat, ← hw] at hr
    have hrd : rd_T84 xs (pre.length : Int) = s := by rw [h]; exact rdS_mid _ _ _
    have hfs := hf s (by rw [h]; simp)
    have hl1 := spec_StoreOk_l1_ev xs (pre.length : Int) s.f0 s.f1 s.f2 hfs.2.2 _ hr s.f2 [] rfl
    have hj1 : Ev (fun k => spec_StoreOk.j1 k xs (pre.length : Int) false s.f0 s.f1 s.f2) (ptsFrom none s.f2 && stFrom (some s) suf) := by
      refine Ev.step (fun k => by rw [spec_StoreOk.j1]) ?_
      simp only [if_neg no_ft]
      exact hl1
    simp only [if_pos hlt, if_pos (nn _), hrd, l01In_v, Option.bind_some, stFrom, serOk]
    refine Ev.bind (spec_NameOk_ev s.f0) ?_
    cases nameOk s.f0
    · simp only [if_neg no_ft, Bool.false_and]; exact spec_j1_true _ _ _ _ _
    · simp only [if_true, Bool.true_and]
      refine Ev.bind (spec_NameOk_ev s.f1) ?_
      cases nameOk s.f1
      · simp only [if_neg no_ft, Bool.false_and]; exact spec_j1_true _ _ _ _ _
      · simp only [if_true, Bool.true_and]
        cases inB (s.f2.length : Int) 1 12
        · simp only [if_neg no_ft, Bool.false_and]; exact spec_j1_true _ _ _ _ _
        · simp only [if_true, Bool.true_and]
          rcases List.eq_nil_or_concat pre with rfl | ⟨pre', q, rfl⟩
          · simp only [List.length_nil, List.getLast?_nil, Bool.and_true]
            simp only [show ¬ (((0 : Nat) : Int) > 0) from by decide, if_false]
            exact hj1
          · rw [List.concat_eq_append] at *
            simp only [List.length_append, List.length_singleton, List.getLast?_concat] at *
            have hwp := wrap_pred pre'.length (by omega)
            have hq : rd_T84 xs (pre'.length : Int) = q := by rw [h]; rw [List.append_assoc]; exact rdS_mid _ _ _
            have h1 : (((pre'.length + 1 : Nat)) : Int) > 0 := by omega
            have h2 : ((pre'.length : Nat) : Int) < (xs.length : Int) := by omega
            have hfq := hf q (by rw [h]; simp)
            simp only [h1, if_true, hwp, if_pos (nn _), h2, hq]
            refine Ev.bind (spec_l03Before_ev q.f0 q.f1 s.f0 s.f1 hfq.1 hfq.2.1) ?_
            cases befB q.f0 q.f1 s.f0 s.f1
            · simp only [Bool.not_false, Bool.and_false, Bool.false_and]; exact spec_j1_true _ _ _ _ _
            · simp only [Bool.not_true, Bool.and_true]; exact hj1
theorem spec_StoreOk_ev (xs : List S84) (hx : xs.length < 4611686018427387904) (hf : ∀ s ∈ xs, fitS s) : Ev (fun k => spec_StoreOk.f k xs) (storeOk xs) := by
  unfold spec_StoreOk.f storeOk
  by_cases c : (xs.length : Int) > 24
  · simp only [c, if_true, show decide ((xs.length : Int) ≤ 24) = false from by simp; omega, Bool.false_and]; exact Ev.now _
  · simp only [c, if_false, show decide ((xs.length : Int) ≤ 24) = true from by simp; omega, Bool.true_and]
    exact spec_StoreOk_l0_ev xs hx hf xs [] rfl
end Go.Proofs.Ytklbbgilfahjhaa.Q
namespace Go.Proofs.Ytklbbgilfahjhaa.Q
open Go.RowKit Go.Proofs.YtklbbgilfahjhaaW.PrintWords Go.Proofs.YtklbbgilfahjhaaW.PrintLast
def isNamed (a b : ByteArray) (s : S84) : Bool := decide (s.f0.toList = a.toList) && decide (s.f1.toList = b.toList)
theorem spec_l03At_l0_ev (xs : List S84) (hx : xs.length < 4611686018427387904) (a b : ByteArray) : ∀ suf pre, xs = pre ++ suf → ∃ t : Int, Ev (fun k => spec_l03At.l0 k xs a b (pre.length : Int)) t ∧ ((t = -1 ∧ suf.find? (isNamed a b) = none) ∨ ∃ (j : Nat) (s : S84), t = (j : Int) ∧ xs[j]? = some s ∧ suf.find? (isNamed a b) = some s) := by
  intro suf
  induction suf with
  | nil =>
    intro pre h
    refine ⟨-1, Ev.step (fun k => by rw [spec_l03At.l0]) ?_, .inl ⟨rfl, rfl⟩⟩
    have hlt : ¬ ((pre.length : Int) < (xs.length : Int)) := by rw [h]; simp
    simp only [if_neg hlt]
    exact Ev.now _
  | cons s suf ih =>
    intro pre h
    have hlt : ((pre.length : Int) < (xs.length : Int)) := by rw [h]; exact lt_mid _ _ _
    have hw := wrapn pre.length (by omega)
    have hrd : rd_T84 xs (pre.length : Int) = s := by rw [h]; exact rdS_mid _ _ _
    by_cases hn : isNamed a b s = true
    · refine ⟨(pre.length : Int), Ev.step (fun k => by rw [spec_l03At.l0]) ?_, .inr ⟨pre.length, s, rfl, by rw [h]; simp, by simp [List.find?, hn]⟩⟩
      simp only [isNamed, Bool.and_eq_true, decide_eq_true_eq] at hn
      simp only [if_pos hlt, if_pos (nn _), hrd, hn.1, hn.2, if_true]
      exact Ev.now _
    · obtain ⟨t, h1, h2⟩ := ih (pre ++ [s]) (by rw [h]; simp)
      rw [List.length_append, List.length_singleton] at h1
      refine ⟨t, Ev.step (fun k => by rw [spec_l03At.l0]) ?_, ?_⟩
      · simp only [if_pos hlt, if_pos (nn _), hrd, hw]
        by_cases c1 : s.f0.toList = a.toList
        · by_cases c2 : s.f1.toList = b.toList
          · exact absurd (by simp [isNamed, c1, c2]) hn
          · simp only [c1, c2, if_true, if_false]; exact h1
        · simp only [c1, if_false]; exact h1
      · simpa [List.find?, hn] using h2
theorem impl_pointsOf_l0_ev (xs : List S84) (hx : xs.length < 4611686018427387904) (a b : ByteArray) : ∀ suf pre, xs = pre ++ suf → Ev (fun k => impl_pointsOf.l0 k a b xs (xs.length : Int) (pre.length : Int)) (match suf.find? (isNamed a b) with | some s => s.f2 | none => []) := by
  intro suf
  induction suf with
  | nil =>
    intro pre h
    refine Ev.step (fun k => by rw [impl_pointsOf.l0]) ?_
    have hlt : ¬ ((pre.length : Int) < (xs.length : Int)) := by rw [h]; simp
    simp only [if_neg hlt]
    exact Ev.now _
  | cons s suf ih =>
    intro pre h
    have hlt : ((pre.length : Int) < (xs.length : Int)) := by rw [h]; exact lt_mid _ _ _
    have hw := wrapn pre.length (by omega)
    have hrd : rd_T84 xs (pre.length : Int) = s := by rw [h]; exact rdS_mid _ _ _
    have hr := ih (pre ++ [s]) (by rw [h]; simp)
    rw [List.length_append, List.length_singleton] at hr
    refine Ev.step (fun k => by rw [impl_pointsOf.l0]) ?_
    simp only [if_pos hlt, if_pos (nn _), hrd, hw]
    by_cases c1 : s.f0.toList = a.toList
    · by_cases c2 : s.f1.toList = b.toList
      · have hn : isNamed a b s = true := by simp [isNamed, c1, c2]
        simp only [c1, c2, if_true, List.find?, hn]; exact Ev.now _
      · have hn : isNamed a b s = false := by simp [isNamed, c2]
        simp only [c1, c2, if_true, if_false, List.find?, hn]; exact hr
    · have hn : isNamed a b s = false := by simp [isNamed, c1]
      simp only [c1, if_false, List.find?, hn]; exact hr
theorem spec_l03Points_l0_ev (ps : List S37) (hp : ps.length < 8796093022208) : ∀ suf pre, ps = pre ++ suf → Ev (fun k => spec_l03Points.l0 k ps pre (pre.length : Int)) ps := by
  intro suf
  induction suf with
  | nil =>
    intro pre h
    refine Ev.step (fun k => by rw [spec_l03Points.l0]) ?_
    have hlt : ¬ ((pre.length : Int) < (ps.length : Int)) := by rw [h]; simp
    simp only [if_neg hlt]
    rw [h, List.append_nil]
    exact Ev.now _
  | cons p suf ih =>
    intro pre h
    have hlt : ((pre.length : Int) < (ps.length : Int)) := by rw [h]; exact lt_mid _ _ _
    have hw := wrapn pre.length (by omega)
    have hrd : rd_T37 ps (pre.length : Int) = p := by rw [h]; exact rdP_mid _ _ _
    have hr := ih (pre ++ [p]) (by rw [h]; simp)
    rw [List.length_append, List.length_singleton] at hr
    refine Ev.step (fun k => by rw [spec_l03Points.l0]) ?_
    have hb : pre.length < 8796093022208 := by omega
    simp only [if_pos hlt, if_pos (nn _), hrd, hw, if_pos hb]
    exact hr
theorem spec_l03Points_ev (ps : List S37) (hp : ps.length < 8796093022208) : Ev (fun k => spec_l03Points.f k ps) ps := spec_l03Points_l0_ev ps hp ps [] rfl
def serOf (l : List S84) (a b : ByteArray) : List S37 × Bool := if storeOk l = true then (match l.find? (isNamed a b) with | some s => (s.f2, true) | none => ([], false)) else ([], false)
theorem stFrom_all : ∀ (l : List S84) (prev : Option S84), stFrom prev l = true → ∀ s ∈ l, serOk s = true
  | [], _, _, s, hs => by cases hs
  | x :: r, prev, h, s, hs => by
    simp only [stFrom, Bool.and_eq_true] at h
    rcases List.mem_cons.1 hs with rfl | hs
    · exact h.1.1
    · exact stFrom_all r _ h.2 s hs
theorem storeOk_all {l : List S84} (h : storeOk l = true) : ∀ s ∈ l, serOk s = true := by
  simp only [storeOk, Bool.and_eq_true] at h
  exact stFrom_all l _ h.2
theorem serOk_len {s : S84} (h : serOk s = true) : 1 ≤ s.f2.length ∧ s.f2.length ≤ 12 := by
  simp only [serOk, inB, Bool.and_eq_true, decide_eq_true_eq] at h
  omega
theorem find_mem {l : List S84} {p : S84 → Bool} {s : S84} (h : l.find? p = some s) : s ∈ l := List.mem_of_find?_eq_some h
theorem spec_SeriesOf_ev (l : List S84) (hx : l.length < 4611686018427387904) (hf : ∀ s ∈ l, fitS s) (a b : ByteArray) : Ev (fun k => spec_SeriesOf.f k l a b) (serOf l a b) := by
  unfold spec_SeriesOf.f serOf
  obtain ⟨t, h1, h2⟩ := spec_l03At_l0_ev l hx a b l [] rfl
  refine Ev.bind (a := t) h1 ?_
  refine Ev.bind (spec_StoreOk_ev l hx hf) ?_
  cases hs : storeOk l
  · simp only [if_neg no_ft]; exact Ev.now _
  · simp only [if_true]
    rcases h2 with ⟨rfl, h2⟩ | ⟨j, s, rfl, hj, h2⟩
    · rw [h2]
      simp only [show ((-1 : Int) < 0) from by decide, if_true]
      exact Ev.now _
    · rw [h2]
      have hjl : j < l.length := (List.getElem?_eq_some_iff.1 hj).1
      have hrd : rd_T84 l (j : Int) = s := by simp [rd_T84, List.getD, hj]
      have hsl := serOk_len (storeOk_all hs s (find_mem h2))
      simp only [show ¬ ((j : Int) < 0) from by omega, if_false, if_pos (nn _), show ((j : Int) < (l.length : Int)) from by omega, if_true, hrd]
      exact Ev.bind (spec_l03Points_ev s.f2 (by omega)) (Ev.now _)
theorem clone_v (ps : List S37) (h : ps.length < 8796093022208) : slices_Clone_impl_Point_impl_Point.f ps = some ps := by simp [slices_Clone_impl_Point_impl_Point.f, h]
theorem impl_SeriesOf_ev (l : List S84) (hx : l.length < 4611686018427387904) (hf : ∀ s ∈ l, fitS s) (a b : ByteArray) : Ev (fun k => impl_SeriesOf.f k l a b) (serOf l a b) := by
  unfold impl_SeriesOf.f serOf
  refine Ev.bind (impl_StoreOk_ev l hx hf) ?_
  cases hs : storeOk l
  · simp only [if_neg no_ft]; exact Ev.now _
  · simp only [if_true]
    refine Ev.bind (impl_pointsOf_l0_ev l hx a b l [] rfl) ?_
    cases h2 : l.find? (isNamed a b) with
    | none =>
      simp only [clone_v [] (by decide), Option.bind_some, List.length_nil]
      exact Ev.now _
    | some s =>
      have hsl := serOk_len (storeOk_all hs s (find_mem h2))
      simp only [clone_v s.f2 (by omega), Option.bind_some, show decide ((s.f2.length : Int) > 0) = true from by simp; omega]
      exact Ev.now _
def isVal (x : Int) : Bool := inB x (-1000000000) 1000000000
def cutV (x : Int) : Int × Bool := if x > 1000000000 then (1000000000, true) else if x < -1000000000 then (-1000000000, true) else (x, false)
def addF : Int × Bool → List Int → Int × Bool
  | acc, [] => acc
  | acc, x :: r => addF ((cutV (acc.1 + x)).1, acc.2 || (cutV (acc.1 + x)).2) r
def addV (l : List Int) : Int × Bool := if (l.length : Int) > 300 then (0, true) else if l.all isVal = true then addF (0, false) l else (0, true)
theorem l01Value_v (x : Int) : spec_l01Value.f x = some (isVal x) := by simp [spec_l01Value.f, l01In_v, isVal]
theorem isValue_v (x : Int) : impl_isValue.f x = some (isVal x) := by simp [impl_isValue.f, in_v, isVal]
theorem specCut_v (x : Int) : spec_CutValue.f x = some (cutV x) := by
  unfold spec_CutValue.f cutV
  by_cases h : x > 1000000000
  · simp only [h, if_true]
  · by_cases h2 : x < -1000000000 <;> simp only [h, h2, if_true, if_false]
theorem implCut_v (x : Int) : impl_CutValue.f x = some (cutV x) := by
  unfold impl_CutValue.f cutV
  have h1 : mn (mx x (-1000000000)) 1000000000 = (if x > 1000000000 then 1000000000 else if x < -1000000000 then -1000000000 else x) := by
    unfold mn mx
    repeat' split
    all_goals omega
  rw [h1]
  by_cases h : x > 1000000000
  · have : ((1000000000 : Int) != x) = true := by simp; omega
    simp only [h, if_true, this]
  · by_cases h2 : x < -1000000000
    · have : ((-1000000000 : Int) != x) = true := by simp; omega
      simp only [h, h2, if_true, if_false, this]
    · simp only [h, h2, if_false, bne_self_eq_false]
theorem cutV_range (x : Int) : -1000000000 ≤ (cutV x).1 ∧ (cutV x).1 ≤ 1000000000 := by
  unfold cutV
  split
  · simp
  · split
    · simp
    · exact ⟨by show _ ≤ x; omega, by show x ≤ _; omega⟩
theorem rd_mid (pre suf : List Int) (x : Int) : rd (pre ++ x :: suf) (pre.length : Int) = x := by simp [rd]

theorem isVal_range {x : Int} (h : isVal x = true) : -1000000000 ≤ x ∧ x ≤ 1000000000 := by simpa [isVal, inB] using h
theorem spec_Add_l1_ev (xs : List Int) (hx : xs.length ≤ 300) (ha : xs.all isVal = true) : ∀ suf pre (s : Int) (c : Bool), xs = pre ++ suf → -1000000000 ≤ s → s ≤ 1000000000 → Ev (fun k => spec_AddValues.l1 k xs s c (pre.length : Int)) (addF (s, c) suf) := by
  intro suf
  induction suf with
  | nil =>
    intro pre s c h h1 h2
    refine Ev.step (fun k => by rw [spec_AddValues.l1]) ?_
    have hlt : ¬ ((pre.length : Int) < (xs.length : Int)) := by rw [h]; simp
    simp only [if_neg hlt, addF]
    exact Ev.now _
  | cons x suf ih =>
    intro pre s c h h1 h2
    refine Ev.step (fun k => by rw [spec_AddValues.l1]) ?_
    have hlt : ((pre.length : Int) < (xs.length : Int)) := by rw [h]; exact lt_mid _ _ _
    have hw := wrapn pre.length (by omega)
    have hrd : rd xs (pre.length : Int) = x := by rw [h]; exact rd_mid _ _ _
    have hv := isVal_range (List.all_eq_true.1 ha x (by rw [h]; simp))
    have hs := wrap_small (s + x) (by omega) (by omega)
    have hc := cutV_range (s + x)
    simp only [if_pos hlt, if_pos (nn _), hrd, hw, hs, specCut_v, Option.bind_some, addF]
    have hr := ih (pre ++ [x]) (cutV (s + x)).1 (c || (cutV (s + x)).2) (by rw [h]; simp) hc.1 hc.2
    rw [List.length_append, List.length_singleton] at hr
    cases c
    · simp only [if_neg no_ft]; exact hr
    · simp only [if_true]; exact hr
theorem spec_Add_l0_ev (xs : List Int) (hx : xs.length ≤ 300) : ∀ suf pre, xs = pre ++ suf → (xs.all isVal = true → pre.all isVal = true) → pre.all isVal = true → Ev (fun k => spec_AddValues.l0 k xs 0 false (pre.length : Int)) (if suf.all isVal = true then addF (0, false) xs else (0, true)) := by
  intro suf
  induction suf with
  | nil =>
    intro pre h _ hp
    refine Ev.step (fun k => by rw [spec_AddValues.l0]) ?_
    have hlt : ¬ ((pre.length : Int) < (xs.length : Int)) := by rw [h]; simp
    simp only [if_neg hlt, List.all_nil, if_true]
    exact spec_Add_l1_ev xs hx (by rw [h, List.append_nil]; exact hp) xs [] 0 false rfl (by decide) (by decide)
  | cons x suf ih =>
    intro pre h h0 hp
    refine Ev.step (fun k => by rw [spec_AddValues.l0]) ?_
    have hlt : ((pre.length : Int) < (xs.length : Int)) := by rw [h]; exact lt_mid _ _ _
    have hw := wrapn pre.length (by omega)
    have hrd : rd xs (pre.length : Int) = x := by rw [h]; exact rd_mid _ _ _
    simp only [if_pos hlt, if_pos (nn _), hrd, hw, l01Value_v, Option.bind_some, List.all_cons]
    rcases Bool.eq_false_or_eq_true (isVal x) with hv | hv
    rotate_left
    · simp only [hv, if_neg no_ft, Bool.false_and]; exact Ev.now _
    · simp only [hv, if_true, Bool.true_and]
      have hpx : (pre ++ [x]).all isVal = true := by rw [List.all_append, hp]; simp [hv]
      have hr := ih (pre ++ [x]) (by rw [h]; simp) (fun _ => hpx) hpx
      rw [List.length_append, List.length_singleton] at hr
      exact hr
theorem spec_Add_ev (xs : List Int) : Ev (fun k => spec_AddValues.f k xs) (addV xs) := by
  unfold spec_AddValues.f addV
  by_cases c : (xs.length : Int) > 300
  · simp only [c, if_true]; exact Ev.now _
  · simp only [c, if_false]
    exact spec_Add_l0_ev xs (by omega) xs [] rfl (fun _ => rfl) rfl
theorem impl_Add_l0_ev (xs : List Int) (hx : xs.length ≤ 300) : ∀ suf pre (s : Int) (c : Bool), xs = pre ++ suf → -1000000000 ≤ s → s ≤ 1000000000 → Ev (fun k => impl_AddValues.l0 k s c xs (xs.length : Int) (pre.length : Int)) (if suf.all isVal = true then addF (s, c) suf else (0, true)) := by
  intro suf
  induction suf with
  | nil =>
    intro pre s c h h1 h2
    refine Ev.step (fun k => by rw [impl_AddValues.l0]) ?_
    have hlt : ¬ ((pre.length : Int) < (xs.length : Int)) := by rw [h]; simp
    simp only [if_neg hlt, addF, List.all_nil, if_true]
    exact Ev.now _
  | cons x suf ih =>
    intro pre s c h h1 h2
    refine Ev.step (fun k => by rw [impl_AddValues.l0]) ?_
    have hlt : ((pre.length : Int) < (xs.length : Int)) := by rw [h]; exact lt_mid _ _ _
    have hw := wrapn pre.length (by omega)
    have hrd : rd xs (pre.length : Int) = x := by rw [h]; exact rd_mid _ _ _
    simp only [if_pos hlt, if_pos (nn _), hrd, hw, isValue_v, Option.bind_some, List.all_cons]
    rcases Bool.eq_false_or_eq_true (isVal x) with hv | hv
    rotate_left
    · simp only [hv, if_neg no_ft, Bool.false_and]; exact Ev.now _
    · have hv' := isVal_range hv
      have hs := wrap_small (s + x) (by omega) (by omega)
      have hc := cutV_range (s + x)
      simp only [hv, if_true, Bool.true_and, hs, implCut_v, Option.bind_some, addF]
      have hr := ih (pre ++ [x]) (cutV (s + x)).1 (c || (cutV (s + x)).2) (by rw [h]; simp) hc.1 hc.2
      rw [List.length_append, List.length_singleton] at hr
      cases c
      · simp only [if_neg no_ft]; exact hr
      · simp only [if_true]; exact hr
theorem impl_Add_ev (xs : List Int) : Ev (fun k => impl_AddValues.f k xs) (addV xs) := by
  unfold impl_AddValues.f addV
  by_cases c : (xs.length : Int) > 300
  · simp only [c, if_true]; exact Ev.now _
  · simp only [c, if_false]
    exact impl_Add_l0_ev xs (by omega) xs [] 0 false rfl (by decide) (by decide)
def flV (a b : Int) : Int := (spec_FloorDiv.f a b).getD 0
theorem specFl_v (a b : Int) : spec_FloorDiv.f a b = some (flV a b) := by
  unfold flV spec_FloorDiv.f
  by_cases h : b < 1
  · simp only [h, if_true, Option.getD_some]
  · simp only [h, if_false, show ¬ (b = 0) from by omega]
    split <;> rfl
theorem implFl_v (a b : Int) : impl_FloorDiv.f a b = some (flV a b) := by
  rw [← specFl_v]
  rfl
def meanV (l : List Int) : Int × Bool := if (l.length : Int) = 0 then (0, false) else if (addV l).2 = true then (0, false) else (flV (addV l).1 (l.length : Int), true)
theorem spec_MeanOf_ev (xs : List Int) : Ev (fun k => spec_MeanOf.f k xs) (meanV xs) := by
  unfold spec_MeanOf.f meanV
  refine Ev.bind (spec_Add_ev xs) ?_
  by_cases c : (xs.length : Int) = 0
  · simp only [c, if_true]; exact Ev.now _
  · simp only [c, if_false]
    cases (addV xs).2
    · simp only [if_neg no_ft, specFl_v, Option.bind_some]; exact Ev.now _
    · simp only [if_true]; exact Ev.now _
theorem impl_MeanOf_ev (xs : List Int) : Ev (fun k => impl_MeanOf.f k xs) (meanV xs) := by
  unfold impl_MeanOf.f meanV
  refine Ev.bind (impl_Add_ev xs) ?_
  by_cases c : (xs.length : Int) = 0
  · simp only [c, if_true]; exact Ev.now _
  · simp only [c, if_false]
    cases (addV xs).2
    · simp only [if_neg no_ft, implFl_v, Option.bind_some]; exact Ev.now _
    · simp only [if_true]; exact Ev.now _
def within (lo hi : Int) (p : S37) : Bool := decide (lo < p.f0) && decide (p.f0 ≤ hi)
theorem spec_Av_l0_ev (lo hi : Int) (ps : List S37) (hp : ps.length < 8796093022208) : ∀ suf pre (acc : List Int), ps = pre ++ suf → acc.length ≤ pre.length → Ev (fun k => spec_AverageOf.l0 k lo hi acc ps (pre.length : Int)) (meanV (acc ++ (suf.filter (within lo hi)).map (·.f1))) := by
  intro suf
  induction suf with
  | nil =>
    intro pre acc h ha
    refine Ev.step (fun k => by rw [spec_AverageOf.l0]) ?_
    have hlt : ¬ ((pre.length : Int) < (ps.length : Int)) := by rw [h]; simp
    simp only [if_neg hlt, List.filter_nil, List.map_nil, List.append_nil]
    exact Ev.bind (spec_MeanOf_ev acc) (Ev.now _)
  | cons p suf ih =>
    intro pre acc h ha
    refine Ev.step (fun k => by rw [spec_AverageOf.l0]) ?_
    have hlt : ((pre.length : Int) < (ps.length : Int)) := by rw [h]; exact lt_mid _ _ _
    have hw := wrapn pre.length (by omega)
    have hrd : rd_T37 ps (pre.length : Int) = p := by rw [h]; exact rdP_mid _ _ _
    have hb : acc.length < 17592186044416 := by omega
    simp only [if_pos hlt, if_pos (nn _), hrd, hw, if_pos hb]
    have hr := fun acc ha => ih (pre ++ [p]) acc (by rw [h]; simp) ha
    simp only [List.length_append, List.length_singleton] at hr
    by_cases c1 : p.f0 > lo
    · by_cases c2 : p.f0 ≤ hi
      · have e : within lo hi p = true := by simp [within, c2]; omega
        simp only [c1, c2, if_true, List.filter_cons, e, List.map_cons]
        have := hr (acc ++ [p.f1]) (by rw [List.length_append, List.length_singleton]; omega)
        rw [List.append_assoc] at this
        exact this
      · have e : within lo hi p = false := by simp [within]; omega
        simp only [c1, c2, if_true, if_false, List.filter_cons, e, if_neg no_ft]
        exact hr acc (by omega)
    · have e : within lo hi p = false := by simp [within]; omega
      simp only [c1, if_false, List.filter_cons, e, if_neg no_ft]
      exact hr acc (by omega)
theorem impl_Av_l0_ev (lo hi : Int) (ps : List S37) (hp : ps.length < 8796093022208) : ∀ suf pre (acc : List Int), ps = pre ++ suf → acc.length ≤ pre.length → Ev (fun k => impl_AverageOf.l0 k lo hi acc ps (ps.length : Int) (pre.length : Int)) (meanV (acc ++ (suf.filter (within lo hi)).map (·.f1))) := by
  intro suf
  induction suf with
  | nil =>
    intro pre acc h ha
    refine Ev.step (fun k => by rw [impl_AverageOf.l0]) ?_
    have hlt : ¬ ((pre.length : Int) < (ps.length : Int)) := by rw [h]; simp
    simp only [if_neg hlt, List.filter_nil, List.map_nil, List.append_nil]
    exact Ev.bind (impl_MeanOf_ev acc) (Ev.now _)
  | cons p suf ih =>
    intro pre acc h ha
    refine Ev.step (fun k => by rw [impl_AverageOf.l0]) ?_
    have hlt : ((pre.length : Int) < (ps.length : Int)) := by rw [h]; exact lt_mid _ _ _
    have hw := wrapn pre.length (by omega)
    have hrd : rd_T37 ps (pre.length : Int) = p := by rw [h]; exact rdP_mid _ _ _
    have hb : acc.length < 17592186044416 := by omega
    simp only [if_pos hlt, if_pos (nn _), hrd, hw, if_pos hb]
    have hr := fun acc ha => ih (pre ++ [p]) acc (by rw [h]; simp) ha
    simp only [List.length_append, List.length_singleton] at hr
    by_cases c1 : p.f0 > lo
    · by_cases c2 : p.f0 ≤ hi
      · have e : within lo hi p = true := by simp [within, c2]; omega
        simp only [c1, c2, if_true, List.filter_cons, e, List.map_cons]
        have := hr (acc ++ [p.f1]) (by rw [List.length_append, List.length_singleton]; omega)
        rw [List.append_assoc] at this
        exact this
      · have e : within lo hi p = false := by simp [within]; omega
        simp only [c1, c2, if_true, if_false, List.filter_cons, e, if_neg no_ft]
        exact hr acc (by omega)
    · have e : within lo hi p = false := by simp [within]; omega
      simp only [c1, if_false, List.filter_cons, e, if_neg no_ft]
      exact hr acc (by omega)
def avV (l : List S84) (a b : ByteArray) (lo hi : Int) : Int × Bool := meanV (((serOf l a b).1.filter (within lo hi)).map (·.f1))
theorem serOf_len (l : List S84) (a b : ByteArray) : (serOf l a b).1.length ≤ 12 := by
  unfold serOf
  cases hs : storeOk l
  · simp
  · simp only [if_true]
    cases h2 : l.find? (isNamed a b) with
    | none => simp
    | some s => exact (serOk_len (storeOk_all hs s (find_mem h2))).2
theorem spec_AverageOf_ev (l : List S84) (hx : l.length < 4611686018427387904) (hf : ∀ s ∈ l, fitS s) (a b : ByteArray) (lo hi : Int) : Ev (fun k => spec_AverageOf.f k l a b lo hi) (avV l a b lo hi) := by
  unfold spec_AverageOf.f avV
  refine Ev.bind (spec_SeriesOf_ev l hx hf a b) ?_
  have := serOf_len l a b
  exact spec_Av_l0_ev lo hi _ (by omega) _ [] [] rfl (Nat.le_refl _)
theorem impl_AverageOf_ev (l : List S84) (hx : l.length < 4611686018427387904) (hf : ∀ s ∈ l, fitS s) (a b : ByteArray) (lo hi : Int) : Ev (fun k => impl_AverageOf.f k l a b lo hi) (avV l a b lo hi) := by
  unfold impl_AverageOf.f avV
  refine Ev.bind (impl_SeriesOf_ev l hx hf a b) ?_
  have := serOf_len l a b
  exact impl_Av_l0_ev lo hi _ (by omega) _ [] [] rfl (Nat.le_refl _)
end Go.Proofs.Ytklbbgilfahjhaa.Q
namespace Go.Proofs.Ytklbbgilfahjhaa.Q
open Go.RowKit Go.Proofs.YtklbbgilfahjhaaW.PrintWords Go.Proofs.YtklbbgilfahjhaaW.PrintLast
def cutN (t : Int) : Int := if t < 0 then -1 else t
theorem cutN_neg {t : Int} (h : t < 0) : cutN t = -1 := by simp [cutN, h]
theorem cutN_nn {t : Int} (h : ¬ t < 0) : cutN t = t := by simp [cutN, h]
def wS (s : S140) : Int := s.f0.size + s.f1.size + s.f2.length
def wL : List S140 → Int
  | [] => 0
  | s :: r => wS s + wL r
theorem wS_nn (s : S140) : 0 ≤ wS s := by unfold wS; omega
theorem wL_nn : ∀ l, 0 ≤ wL l
  | [] => by simp [wL]
  | s :: r => by have := wS_nn s; have := wL_nn r; simp only [wL]; omega
def bigS (s : S140) : Prop := s.f0.size ≤ 140737488351232 ∧ s.f1.size ≤ 140737488351232 ∧ s.f2.length ≤ 140737488351232
theorem szSeries_v (s : S140) (h : bigS s) (a : Int) (h0 : 0 ≤ a) (h1 : a ≤ 1048576) : laws_szSeries.f s.f0 s.f1 s.f2 a = some (cutN (a - wS s)) := by
  obtain ⟨h2, h3, h4⟩ := h
  unfold laws_szSeries.f laws_szPointS.f wS
  rw [wrap_small (a - (s.f0.size : Int)) (by omega) (by omega)]
  by_cases c : a - (s.f0.size : Int) < 0
  · rw [if_pos c, cutN_neg (by omega)]
  · rw [if_neg c, wrap_small (a - (s.f0.size : Int) - (s.f1.size : Int)) (by omega) (by omega)]
    by_cases c2 : a - (s.f0.size : Int) - (s.f1.size : Int) < 0
    · rw [if_pos c2, cutN_neg (by omega)]
    · rw [if_neg c2, wrap_small _ (by omega) (by omega)]
      by_cases c3 : a - (s.f0.size : Int) - (s.f1.size : Int) - (s.f2.length : Int) < 0
      · rw [if_pos c3, cutN_neg (by omega)]
        rfl
      · rw [if_neg c3, cutN_nn (by omega), Option.bind_some, if_neg c3]
        congr 1
        omega
theorem rdLS_mid (pre suf : List S140) (p : S140) : rd_T140 (pre ++ p :: suf) (pre.length : Int) = p := by simp [rd_T140]
theorem rdLP_mid (pre suf : List S221) (p : S221) : rd_T221 (pre ++ p :: suf) (pre.length : Int) = p := by simp [rd_T221]
theorem szSeriesS_l0_ev (xs : List S140) (hx : xs.length < 4611686018427387904) (hf : ∀ s ∈ xs, bigS s) : ∀ suf pre (a : Int), xs = pre ++ suf → 0 ≤ a → a ≤ 1048576 → Ev (fun k => laws_szSeriesS.l0 k xs a (pre.length : Int)) (cutN (a - wL suf)) := by
  intro suf
  induction suf with
  | nil =>
    intro pre a h h0 h1
    refine Ev.step (fun k => by rw [laws_szSeriesS.l0]) ?_
    have hlt : ¬ ((pre.length : Int) < (xs.length : Int)) := by rw [h]; simp
    simp only [if_neg hlt, wL, Int.sub_zero]
    rw [cutN_nn (by omega)]
    exact Ev.now _
  | cons s suf ih =>
    intro pre a h h0 h1
    refine Ev.step (fun k => by rw [laws_szSeriesS.l0]) ?_
    have hlt : ((pre.length : Int) < (xs.length : Int)) := by rw [h]; exact lt_mid _ _ _
    have hw := wrapn pre.length (by omega)
    have hrd : rd_T140 xs (pre.length : Int) = s := by rw [h]; exact rdLS_mid _ _ _
    have hs := szSeries_v s (hf s (by rw [h]; simp)) a h0 h1
    have n1 := wS_nn s
    have n2 := wL_nn suf
    simp only [if_pos hlt, if_pos (nn _), hrd, hw, hs, Option.bind_some, wL]
    by_cases c : a - wS s < 0
    · rw [cutN_neg c, cutN_neg (by omega)]
      simp only [show ((-1 : Int) < 0) from by decide, if_true]
      exact Ev.now _
    · rw [cutN_nn c]
      simp only [c, if_false]
      have hr := ih (pre ++ [s]) (a - wS s) (by rw [h]; simp) (by omega) (by omega)
      rw [List.length_append, List.length_singleton] at hr
      rw [show a - (wS s + wL suf) = a - wS s - wL suf from by omega]
      exact hr
theorem szSeriesS_ev (xs : List S140) (hx : xs.length ≤ 140737488351232) (hf : ∀ s ∈ xs, bigS s) (a : Int) (h0 : 0 ≤ a) (h1 : a ≤ 1048576) : Ev (fun k => laws_szSeriesS.f k xs a) (cutN (a - xs.length - wL xs)) := by
  unfold laws_szSeriesS.f
  rw [wrap_small _ (by omega) (by omega)]
  have n2 := wL_nn xs
  by_cases c : a - (xs.length : Int) < 0
  · simp only [c, if_true]
    rw [cutN_neg (by omega)]
    exact Ev.now _
  · simp only [c, if_false]
    exact szSeriesS_l0_ev xs (by omega) hf xs [] _ rfl (by omega) (by omega)
theorem wL_mem : ∀ {l : List S140} {s : S140}, s ∈ l → wS s ≤ wL l
  | x :: r, s, h => by
    have n1 := wS_nn x
    have n2 := wL_nn r
    rcases List.mem_cons.1 h with rfl | h
    · simp only [wL]; omega
    · have := wL_mem h; simp only [wL]; omega
def toP (p : S221) : S37 := ⟨p.f0, p.f1⟩
def toS (s : S140) : S84 := ⟨s.f0, s.f1, s.f2.map toP⟩
theorem set_mid {α : Type} (pre suf : List α) (x y : α) : (pre ++ x :: suf).set pre.length y = pre ++ y :: suf := by
  induction pre with
  | nil => rfl
  | cons a r ih => simp [ih]
theorem toPointS_l0_ev (xs : List S221) (hx : xs.length < 4611686018427387904) : ∀ suf pre, xs = pre ++ suf → Ev (fun k => laws_toPointS.l0 k xs (pre.map toP ++ List.replicate suf.length z37) (pre.length : Int)) (xs.map toP) := by
  intro suf
  induction suf with
  | nil =>
    intro pre h
    refine Ev.step (fun k => by rw [laws_toPointS.l0]) ?_
    have hlt : ¬ ((pre.length : Int) < (xs.length : Int)) := by rw [h]; simp
    simp only [if_neg hlt]
    rw [h, List.append_nil, List.length_nil, List.replicate_zero, List.append_nil]
    exact Ev.now _
  | cons p suf ih =>
    intro pre h
    refine Ev.step (fun k => by rw [laws_toPointS.l0]) ?_
    have hlt : ((pre.length : Int) < (xs.length : Int)) := by rw [h]; exact lt_mid _ _ _
    have hw := wrapn pre.length (by omega)
    have hrd : rd_T221 xs (pre.length : Int) = p := by rw [h]; exact rdLP_mid _ _ _
    have hr := ih (pre ++ [p]) (by rw [h]; simp)
    rw [List.length_append, List.length_singleton, List.map_append, List.append_assoc] at hr
    have hl2 : (pre.length : Int) < ((pre.map toP ++ List.replicate (p :: suf).length z37).length : Int) := by simp; omega
    have hset : (pre.map toP ++ List.replicate (p :: suf).length z37).set pre.length (toP p) = pre.map toP ++ ([p].map toP ++ List.replicate suf.length z37) := by
      rw [List.length_cons, List.replicate_succ]
      have := set_mid (pre.map toP) (List.replicate suf.length z37) z37 (toP p)
      rw [List.length_map] at this
      rw [this]
      rfl
    simp only [if_pos hlt, if_pos (nn _), hrd, hw, laws_toPoint.f, Option.bind_some, if_pos hl2, Int.toNat_natCast]
    rw [show (⟨p.f0, p.f1⟩ : S37) = toP p from rfl, hset]
    exact hr
theorem toPointS_ev (xs : List S221) (hx : xs.length ≤ 1048576) : Ev (fun k => laws_toPointS.f k xs) (xs.map toP) := by
  unfold laws_toPointS.f
  simp only [if_pos (nn _), Int.toNat_natCast, show xs.length ≤ 17592186044416 from by omega, if_true]
  exact toPointS_l0_ev xs (by omega) xs [] rfl
theorem toSeriesS_l0_ev (xs : List S140) (hx : xs.length < 4611686018427387904) (hf : ∀ s ∈ xs, s.f2.length ≤ 1048576) : ∀ suf pre, xs = pre ++ suf → Ev (fun k => laws_toSeriesS.l0 k xs (pre.map toS ++ List.replicate suf.length z84) (pre.length : Int)) (xs.map toS) := by
  intro suf
  induction suf with
  | nil =>
    intro pre h
    refine Ev.step (fun k => by rw [laws_toSeriesS.l0]) ?_
    have hlt : ¬ ((pre.length : Int) < (xs.length : Int)) := by rw [h]; simp
    simp only [if_neg hlt]
    rw [h, List.append_nil, List.length_nil, List.replicate_zero, List.append_nil]
    exact Ev.now _
  | cons p suf ih =>
    intro pre h
    refine Ev.step (fun k => by rw [laws_toSeriesS.l0]) ?_
    have hlt : ((pre.length : Int) < (xs.length : Int)) := by rw [h]; exact lt_mid _ _ _
    have hw := wrapn pre.length (by omega)
    have hrd : rd_T140 xs (pre.length : Int) = p := by rw [h]; exact rdLS_mid _ _ _
    have hr := ih (pre ++ [p]) (by rw [h]; simp)
    rw [List.length_append, List.length_singleton, List.map_append, List.append_assoc] at hr
    have hl2 : (pre.length : Int) < ((pre.map toS ++ List.replicate (p :: suf).length z84).length : Int) := by simp; omega
    have hset : (pre.map toS ++ List.replicate (p :: suf).length z84).set pre.length (toS p) = pre.map toS ++ ([p].map toS ++ List.replicate suf.length z84) := by
      rw [List.length_cons, List.replicate_succ]
      have := set_mid (pre.map toS) (List.replicate suf.length z84) z84 (toS p)
      rw [List.length_map] at this
      rw [this]
      rfl
    simp only [if_pos hlt, if_pos (nn _), hrd, hw, if_pos hl2, Int.toNat_natCast]
    have hto : Ev (fun k => laws_toSeries.f k p.f0 p.f1 p.f2) (p.f0, p.f1, p.f2.map toP) := by
      unfold laws_toSeries.f
      exact Ev.bind (toPointS_ev p.f2 (hf p (by rw [h]; simp))) (Ev.now _)
    refine Ev.bind hto ?_
    rw [show (⟨p.f0, p.f1, p.f2.map toP⟩ : S84) = toS p from rfl, hset]
    exact hr
theorem toSeriesS_ev (xs : List S140) (hx : xs.length ≤ 1048576) (hf : ∀ s ∈ xs, s.f2.length ≤ 1048576) : Ev (fun k => laws_toSeriesS.f k xs) (xs.map toS) := by
  unfold laws_toSeriesS.f
  simp only [if_pos (nn _), Int.toNat_natCast, show xs.length ≤ 5026338869833 from by omega, if_true]
  exact toSeriesS_l0_ev xs (by omega) hf xs [] rfl
theorem eqPointS_l0_ev (xs : List S37) (hx : xs.length < 4611686018427387904) : ∀ suf pre, xs = pre ++ suf → Ev (fun k => laws_eqPointS.l0 k xs xs (pre.length : Int)) true := by
  intro suf
  induction suf with
  | nil =>
    intro pre h
    refine Ev.step (fun k => by rw [laws_eqPointS.l0]) ?_
    have hlt : ¬ ((pre.length : Int) < (xs.length : Int)) := by rw [h]; simp
    simp only [if_neg hlt]
    exact Ev.now _
  | cons p suf ih =>
    intro pre h
    refine Ev.step (fun k => by rw [laws_eqPointS.l0]) ?_
    have hlt : ((pre.length : Int) < (xs.length : Int)) := by rw [h]; exact lt_mid _ _ _
    have hw := wrapn pre.length (by omega)
    have hr := ih (pre ++ [p]) (by rw [h]; simp)
    rw [List.length_append, List.length_singleton] at hr
    simp only [if_pos hlt, if_pos (nn _), hw, laws_eqPoint.f, if_true, Option.bind_some]
    exact hr
theorem eqPointS_ev (xs : List S37) (hx : xs.length < 4611686018427387904) : Ev (fun k => laws_eqPointS.f k xs xs) true := by
  unfold laws_eqPointS.f
  simp only [if_true]
  exact eqPointS_l0_ev xs hx xs [] rfl
theorem eqSeriesS_l0_ev (xs : List S84) (hx : xs.length < 4611686018427387904) (hf : ∀ s ∈ xs, s.f2.length < 4611686018427387904) : ∀ suf pre, xs = pre ++ suf → Ev (fun k => laws_eqSeriesS.l0 k xs xs (pre.length : Int)) true := by
  intro suf
  induction suf with
  | nil =>
    intro pre h
    refine Ev.step (fun k => by rw [laws_eqSeriesS.l0]) ?_
    have hlt : ¬ ((pre.length : Int) < (xs.length : Int)) := by rw [h]; simp
    simp only [if_neg hlt]
    exact Ev.now _
  | cons p suf ih =>
    intro pre h
    refine Ev.step (fun k => by rw [laws_eqSeriesS.l0]) ?_
    have hlt : ((pre.length : Int) < (xs.length : Int)) := by rw [h]; exact lt_mid _ _ _
    have hw := wrapn pre.length (by omega)
    have hrd : rd_T84 xs (pre.length : Int) = p := by rw [h]; exact rdS_mid _ _ _
    have hr := ih (pre ++ [p]) (by rw [h]; simp)
    rw [List.length_append, List.length_singleton] at hr
    simp only [if_pos hlt, if_pos (nn _), hw, laws_eqSeries.f, if_true, hrd]
    refine Ev.bind (a := true) ?_ ?_
    · exact Ev.bind (eqPointS_ev p.f2 (hf p (by rw [h]; simp))) (by simp only [if_true]; exact Ev.now _)
    · simp only [if_true]
      exact hr
theorem eqSeriesS_ev (xs : List S84) (hx : xs.length < 4611686018427387904) (hf : ∀ s ∈ xs, s.f2.length < 4611686018427387904) : Ev (fun k => laws_eqSeriesS.f k xs xs) true := by
  unfold laws_eqSeriesS.f
  simp only [if_true]
  exact eqSeriesS_l0_ev xs hx hf xs [] rfl
end Go.Proofs.Ytklbbgilfahjhaa.Q
