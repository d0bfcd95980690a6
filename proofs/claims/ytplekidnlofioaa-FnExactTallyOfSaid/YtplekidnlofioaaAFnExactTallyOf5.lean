/- Part 5 of the proof of FnExactTallyOf: contracts of the functions that it reaches, printed and by hand, and what they come to in plain Lean. -/
import Derived.Test.YtplekidnlofioaaAFnExactTallyOf2
import Derived.Test.YtplekidnlofioaaAFnExactTallyOf4
import Derived.WalkLawsBesides
namespace Go.Proofs.Ytplekidnlofioaa.Q
open Go.RowKit Go.Proofs.YtplekidnlofioaaW.PrintWords Go.Proofs.YtplekidnlofioaaW.PrintLast Go.Proofs.YtplekidnlofioaaW.PrintMore
attribute [local go_sem] max2_int min2_int max_two min_two max_three min_three max_four min_four   -- for this text's walks alone
set_option linter.unusedVariables false
set_option linter.unusedSimpArgs false

/-! ### impl_MeanOf: function 158 -/
def impl_MeanOf.f (k : Nat) (l0 : List Int) : Option (Int × Bool) := (impl_AddValues.f k l0).bind fun bt856 => (if (l0.length : Int) = 0 then (some (0, false)) else (if bt856.2 = true then (some (0, false)) else ((impl_FloorDiv.f bt856.1 (l0.length : Int)).bind fun t858 => (some (t858, true)))))
theorem impl_MeanOf.mono : ∀ a0 k, LeO (impl_MeanOf.f k a0) (impl_MeanOf.f (k + 1) a0) := by
 intro a0 k
 unfold impl_MeanOf.f
 repeat' first
  | (with_reducible exact impl_AddValues.mono _ _)
  | (with_reducible exact LeO.refl _)
  | (with_reducible exact LeO.none _)
  | (with_reducible refine LeO.ite ?_ ?_)
  | (with_reducible refine LeO.bind ?_ (fun _ => ?_))
  | exact impl_AddValues.mono _ _
  | exact LeO.none _
  | refine LeO.ite ?_ ?_
  | refine LeO.bind ?_ (fun _ => ?_)
set_option maxHeartbeats 8000000 in
set_option maxRecDepth 100000 in
theorem impl_MeanOf.calls (k : Nat) (A0 : Option Addr) (c0 : Nat) (l0 : List Int) (r1 : Int) (r2 : Bool) (w : World) (hr0 : Kd.C (Kd.int .i64) w A0 l0.length l0) (hc0 : l0.length ≤ c0) (h : impl_MeanOf.f k l0 = some (r1, r2)) :
 Calls Try.prog 158 #[.slice A0 l0.length c0] w fun e w' => e = .returned (.tuple #[.int .i64 r1, .bool r2]) ∧ Below w.heap.size w w' := by
 have HR0 := Aside0.mk hr0
 have HC0 := Aside0.mk hc0
 clear hr0 hc0
 have HB := Aside0.mk (Below.refl w.heap.size w)
 have H : ((impl_AddValues.f k l0).bind fun bt856 => (if (l0.length : Int) = 0 then (some (0, false)) else (if bt856.2 = true then (some (0, false)) else ((impl_FloorDiv.f bt856.1 (l0.length : Int)).bind fun t858 => (some (t858, true)))))) = some (r1, r2) := h
 clear h
 replace H := Option.bind_eq_some_iff.mp H
 obtain ⟨⟨t856, t857⟩, A20, H⟩ := H
 replace H : (if (l0.length : Int) = 0 then (some (0, false)) else (if t857 = true then (some (0, false)) else ((impl_FloorDiv.f t856 (l0.length : Int)).bind fun t858 => (some (t858, true))))) = some (r1, r2) := H
 have A2 := Aside0.mk A20
 clear A20
 by_cases c3 : (l0.length : Int) = 0
 · rw [if_pos c3] at H
   have c3b0 : ((l0.length : Int) == 0) = true := beq_iff_eq.mpr c3
   have c3b1 : ((l0.length : Int) != 0) = false := bne_eq_false_iff_eq.mpr c3
   clear c3
   simp only [Option.some.injEq, Prod.mk.injEq] at H
   obtain ⟨rfl, rfl⟩ := H
   go_enter Try.func158, Try.ntmps158
   go_wp2_with (first | ((with_reducible refine gate_callee (f := 106) rfl ?_); refine gl (some 8) Try.func106 #[.slice A0 l0.length c0] ?_; (with_reducible refine (impl_AddValues.calls k _ _ l0 t856 t857 _ ?side1 ?side2 A2.out).mono ?_); (case side1 => repeat (first | exact HR0.out | (with_reducible refine Kd.C_alloc ?_ _) | (with_reducible refine Kd.C_drewN ?_ _) | (with_reducible refine Kd.C_drew ?_))); (case side2 => exact HC0.out); rintro e w4 ⟨rfl, hb⟩; refine ⟨_, rfl, ?_⟩; replace HB := ak (below_step bl hb); (try clear hb); (try clear hb2); (try clear hk); (try clear hi)))
   go_ret2
   exact ⟨ew, bl⟩
 · rw [if_neg c3] at H
   have c3b0 : ((l0.length : Int) == 0) = false := beq_eq_false_iff_ne.mpr c3
   have c3b1 : ((l0.length : Int) != 0) = true := bne_iff_ne.mpr c3
   have c3b2 : ¬ (l0 = []) := fun h_ => c3 (by rw [h_]; rfl)
   by_cases c5 : t857 = true
   · subst c5
     replace H := iT H
     simp only [Option.some.injEq, Prod.mk.injEq] at H
     obtain ⟨rfl, rfl⟩ := H
     go_enter Try.func158, Try.ntmps158
     go_wp2_with (first | ((with_reducible refine gate_callee (f := 106) rfl ?_); refine gl (some 8) Try.func106 #[.slice A0 l0.length c0] ?_; (with_reducible refine (impl_AddValues.calls k _ _ l0 t856 true _ ?side1 ?side2 A2.out).mono ?_); (case side1 => repeat (first | exact HR0.out | (with_reducible refine Kd.C_alloc ?_ _) | (with_reducible refine Kd.C_drewN ?_ _) | (with_reducible refine Kd.C_drew ?_))); (case side2 => exact HC0.out); rintro e w6 ⟨rfl, hb⟩; refine ⟨_, rfl, ?_⟩; replace HB := ak (below_step bl hb); (try clear hb); (try clear hb2); (try clear hk); (try clear hi)))
     go_ret2
     exact ⟨ew, bl⟩
   · replace c5 := Bool.eq_false_iff.mpr c5
     subst c5
     replace H := iF H
     obtain ⟨t858, A70, H⟩ := bo H
     have A7 := Aside0.mk A70
     clear A70
     simp only [Option.some.injEq, Prod.mk.injEq] at H
     obtain ⟨rfl, rfl⟩ := H
     go_enter Try.func158, Try.ntmps158
     go_wp2_with (first | ((with_reducible refine gate_callee (f := 106) rfl ?_); refine gl (some 8) Try.func106 #[.slice A0 l0.length c0] ?_; (with_reducible refine (impl_AddValues.calls k _ _ l0 t856 false _ ?side1 ?side2 A2.out).mono ?_); (case side1 => repeat (first | exact HR0.out | (with_reducible refine Kd.C_alloc ?_ _) | (with_reducible refine Kd.C_drewN ?_ _) | (with_reducible refine Kd.C_drew ?_))); (case side2 => exact HC0.out); rintro e w8 ⟨rfl, hb⟩; refine ⟨_, rfl, ?_⟩; replace HB := ak (below_step bl hb); (try clear hb); (try clear hb2); (try clear hk); (try clear hi)) | ((with_reducible refine gate_callee (f := 185) rfl ?_); refine gl (some 20) Try.func185 #[.int .i64 t856, .int .i64 (l0.length : Int)] ?_; (with_reducible refine (impl_FloorDiv.calls t856 (l0.length : Int) t858 _ A7.out).mono ?_); rintro e w' ⟨rfl, ⟨nd, rfl⟩⟩; refine ⟨_, rfl, ?_⟩))
     go_ret2
     exact ⟨ew, bl⟩

end Go.Proofs.Ytplekidnlofioaa.Q
namespace Go.Proofs.Ytplekidnlofioaa.Q
open Go.RowKit Go.Proofs.YtplekidnlofioaaW.PrintWords Go.Proofs.YtplekidnlofioaaW.PrintLast Go.Proofs.YtplekidnlofioaaW.PrintMore
attribute [local go_sem] max2_int min2_int max_two min_two max_three min_three max_four min_four   -- for this text's walks alone
set_option linter.unusedVariables false
set_option linter.unusedSimpArgs false

/-! ### impl_AverageOf: function 105 -/
def impl_AverageOf.l0 : Nat → Int → Int → List Int → List (S37) → Int → Int → Option (Int × Bool)
 | 0, _, _, _, _, _, _ => none
 | k + 1, x3, x4, x14, x24, x25, x26 => if x26 < x25 then (if 0 ≤ x26 then (if x26 < (x24.length : Int) then (if ((rd_T37 x24 x26).f0) > x3 then (if ((rd_T37 x24 x26).f0) ≤ x4 then (if x14.length < 17592186044416 then (impl_AverageOf.l0 k x3 x4 (x14 ++ [(rd_T37 x24 x26).f1]) x24 x25 (wrap64 (x26 + 1))) else (none)) else (impl_AverageOf.l0 k x3 x4 x14 x24 x25 (wrap64 (x26 + 1)))) else (impl_AverageOf.l0 k x3 x4 x14 x24 x25 (wrap64 (x26 + 1)))) else (none)) else (none)) else ((impl_MeanOf.f k x14).bind fun bt868 => (some (bt868.1, bt868.2)))
def impl_AverageOf.f (k : Nat) (l0 : List (S81)) (a1 : ByteArray) (a2 : ByteArray) (a3 : Int) (a4 : Int) : Option (Int × Bool) := (impl_SeriesOf.f k l0 a1 a2).bind fun bt859 => (impl_AverageOf.l0 k a3 a4 ([] : List Int) bt859.1 (bt859.1.length : Int) 0)
theorem impl_AverageOf.mono_l : ∀ k, (∀ y0 y1 y2 y3 y4 y5, LeO (impl_AverageOf.l0 k y0 y1 y2 y3 y4 y5) (impl_AverageOf.l0 (k + 1) y0 y1 y2 y3 y4 y5))
 | 0 => fun _ _ _ _ _ _ r h => by simp [impl_AverageOf.l0] at h
 | k + 1 => by
  have ih0 := impl_AverageOf.mono_l k
  · intro y0 y1 y2 y3 y4 y5
    unfold impl_AverageOf.l0
    repeat' first
    | (with_reducible exact ih0 _ _ _ _ _ _)
    | (with_reducible exact impl_MeanOf.mono _ _)
    | (with_reducible exact impl_SeriesOf.mono _ _ _ _)
    | (with_reducible exact LeO.refl _)
    | (with_reducible exact LeO.none _)
    | (with_reducible refine LeO.ite ?_ ?_)
    | (with_reducible refine LeO.bind ?_ (fun _ => ?_))
    | exact ih0 _ _ _ _ _ _
    | exact impl_MeanOf.mono _ _
    | exact impl_SeriesOf.mono _ _ _ _
    | exact LeO.none _
    | refine LeO.ite ?_ ?_
    | refine LeO.bind ?_ (fun _ => ?_)
theorem impl_AverageOf.mono : ∀ a0 a1 a2 a3 a4 k, LeO (impl_AverageOf.f k a0 a1 a2 a3 a4) (impl_AverageOf.f (k + 1) a0 a1 a2 a3 a4) := by
 intro a0 a1 a2 a3 a4 k
 have ih0 := impl_AverageOf.mono_l k
 unfold impl_AverageOf.f
 repeat' first
  | (with_reducible exact ih0 _ _ _ _ _ _)
  | (with_reducible exact impl_MeanOf.mono _ _)
  | (with_reducible exact impl_SeriesOf.mono _ _ _ _)
  | (with_reducible exact LeO.refl _)
  | (with_reducible exact LeO.none _)
  | (with_reducible refine LeO.ite ?_ ?_)
  | (with_reducible refine LeO.bind ?_ (fun _ => ?_))
  | exact ih0 _ _ _ _ _ _
  | exact impl_MeanOf.mono _ _
  | exact impl_SeriesOf.mono _ _ _ _
  | exact LeO.none _
  | refine LeO.ite ?_ ?_
  | refine LeO.bind ?_ (fun _ => ?_)
set_option maxHeartbeats 8000000 in
set_option maxRecDepth 100000 in
theorem impl_AverageOf.calls (k : Nat) (A0 : Option Addr) (c0 : Nat) (l0 : List (S81)) (a1 : ByteArray) (a2 : ByteArray) (a3 : Int) (a4 : Int) (r1 : Int) (r2 : Bool) (w : World) (hr0 : Kd.C k81 w A0 l0.length l0) (hc0 : l0.length ≤ c0) (h : impl_AverageOf.f k l0 a1 a2 a3 a4 = some (r1, r2)) :
 Calls Try.prog 105 #[.slice A0 l0.length c0, .string a1, .string a2, .int .i64 a3, .int .i64 a4] w fun e w' => e = .returned (.tuple #[.int .i64 r1, .bool r2]) ∧ Below w.heap.size w w' := by
 have hu37 := Try.underlying37
 have HR0 := Aside0.mk hr0
 have HC0 := Aside0.mk hc0
 clear hr0 hc0
 have HB := Aside0.mk (Below.refl w.heap.size w)
 have H : ((impl_SeriesOf.f k l0 a1 a2).bind fun bt859 => (impl_AverageOf.l0 k a3 a4 ([] : List Int) bt859.1 (bt859.1.length : Int) 0)) = some (r1, r2) := h
 clear h
 replace H := Option.bind_eq_some_iff.mp H
 obtain ⟨⟨t859, t860⟩, A60, H⟩ := H
 replace H : (impl_AverageOf.l0 k a3 a4 ([] : List Int) t859 (t859.length : Int) 0) = some (r1, r2) := H
 have A6 := Aside0.mk A60
 clear A60
 have H' := Aside0.mk H
 clear H
 go_enter Try.func105, Try.ntmps105
 go_wp2_with (first | ((with_reducible refine gate_callee (f := 15) rfl ?_); refine gl (some 21) Try.func15 #[.slice A0 l0.length c0, .string a1, .string a2] ?_; (with_reducible refine (impl_SeriesOf.calls k _ _ l0 a1 a2 t859 t860 _ ?side1 ?side2 A6.out).mono ?_); (case side1 => repeat (first | exact HR0.out | (with_reducible refine Kd.C_alloc ?_ _) | (with_reducible refine Kd.C_drewN ?_ _) | (with_reducible refine Kd.C_drew ?_))); (case side2 => exact HC0.out); rintro e w7 ⟨v861, rfl, ho0, hb⟩; refine ⟨_, rfl, ?_⟩; have HO862 := ak (Kd.R_lower ho0 (below_size bl)); replace HB := ak (below_step bl hb); (try clear hb); (try clear hb2); (try clear hk); (try clear hi); (try clear ho0); obtain ⟨Ao8, co8, eo8⟩ := Kd.R_slice HO862.out; subst eo8))
 go_loopg [14, 26] k (fun kq v14 v26 w' => ∃ (x14_1 : List Int) (x26_1 : Int), v26 = .int .i64 x26_1 ∧ Aside0 (impl_AverageOf.l0 kq a3 a4 x14_1 t859 (t859.length : Int) x26_1 = some (r1, r2)) ∧ Aside0 (kq ≤ k) ∧ Aside0 (Kd.R (Kd.int .i64) 3 w' w.heap.size (fun _ => True) v14 x14_1) ∧ Aside0 (Kd.R k37 37 w' w.heap.size (fun _ => True) (.slice Ao8 t859.length co8) t859) ∧ Aside0 (Below w.heap.size w w'))
 case atStart => exact ⟨(([] : List Int)), (0), es, H', ⟨Nat.le_refl _⟩, ⟨by first | exact Kd.R_nil _ _ _ _ _ | exact Kd.N_nil _ _ _ _ _ | exact Kd.V_nil _ _ _ _ _ | exact Kd.Q_nil _ _ _ _ _ | exact Kd.S_nil _ _ _ _ _⟩, ⟨kr HO862⟩, ⟨bl⟩⟩
 case round =>
  clear H'
  try clear c1
  try clear p2
  obtain ⟨x14_1, x26_1, rfl, HA, HK1, HO_14, HO_24, HB⟩ := hrel
  cases gk with
  | zero => exact absurd HA.out (by simp [impl_AverageOf.l0])
  | succ k1 =>
   have H := HA.out
   clear HA
   simp only [impl_AverageOf.l0] at H
   by_cases c9 : x26_1 < (t859.length : Int)
   · rw [if_pos c9] at H
     have c9b0 : decide (x26_1 < (t859.length : Int)) = true := decide_eq_true c9
     clear c9
     by_cases c10 : 0 ≤ x26_1
     · rw [if_pos c10] at H
       have c10b0 : decide (0 ≤ x26_1) = true := decide_eq_true c10
       clear c10
       by_cases c11 : x26_1 < (t859.length : Int)
       · rw [if_pos c11] at H
         have c11b0 : decide (x26_1 < (t859.length : Int)) = true := decide_eq_true c11
         clear c11
         by_cases c12 : ((rd_T37 t859 x26_1).f0) > a3
         · rw [if_pos c12] at H
           have c12b0 : decide (a3 < ((rd_T37 t859 x26_1).f0)) = true := decide_eq_true c12
           clear c12
           by_cases c13 : ((rd_T37 t859 x26_1).f0) ≤ a4
           · rw [if_pos c13] at H
             have c13b0 : decide (((rd_T37 t859 x26_1).f0) ≤ a4) = true := decide_eq_true c13
             clear c13
             by_cases c14 : x14_1.length < 17592186044416
             · rw [if_pos c14] at H
               have LMc14 := Aside0.mk c14
               clear c14
               obtain ⟨y865, hy865⟩ : ∃ y_ : List Int, y_ = (x14_1 ++ [(rd_T37 t859 x26_1).f1]) := ⟨_, rfl⟩
               replace H : (impl_AverageOf.l0 k1 a3 a4 y865 t859 (t859.length : Int) (wrap64 (x26_1 + 1))) = some (r1, r2) := by first | (rw [hy865]; with_reducible exact H) | (have H2_ := (Option.bind_some _ _).symm.trans H; rw [hy865]; with_reducible exact H2_) | (have H2_ := (Option.bind_some _ _).symm.trans H; with_reducible exact H2_) | with_reducible exact H | (rw [hy865]; exact H) | exact H
               have Ny865 := Aside0.mk hy865
               clear hy865
               have H' := Aside0.mk H
               clear H
               have p863 : 0 ≤ (x26_1 : Int) := of_decide_eq_true am
               have q863 : x26_1 < (t859.length : Int) := of_decide_eq_true am
               obtain ⟨ad863, e863, hx863_0, hx863_1⟩ := at_T37 (Kd.R_reads' HO_24.out).2.2 x26_1 p863 q863
               cases e863
               replace p863 := eq_true p863
               replace q863 := eq_true q863
               go_wp2_with (first | ((with_reducible refine gate_dst (N := 16) rfl ?_); refine bx 16 #[.int .i64 0, .int .i64 0] 37 ?_; intro gb864 hg w15 hbox hb; replace HO_14 := ak (Kd.R_below (kr HO_14) hb); replace HO_24 := ak (Kd.R_below (Kd.R_elderB (kr HO_24) gb864 (Nat.le_of_eq hg.symm)) hb); have BK864 := ak hbox; have GW864 := gs hg bl; have GE864 := gs hg bl; replace HB := ak (below_step bl hb); clear hb hbox hg; obtain ⟨hcz16_0, hcz16_1, hfz16_0, hfz16_1⟩ := cz2 BK864) | ((with_reducible refine gate_builtin (b := .append) (xs := #[.tmp 40, .tmp 43]) rfl ?_); at_builtin; refine Kd.R_append (Kd.int .i64) (w0 := w) w.heap.size rfl (.tmp 40) (.tmp 43) 25 3 (.int .i64 0) 8 rfl Try.underlying25 info3 rfl (by decide) (by omega) u14 x14_1 ((rd_T37 t859 x26_1).f1) [.int .i64 ((rd_T37 t859 x26_1).f1)] (fun _ => True) (fun _ => False) rfl (by first | (go_simp; done) | (go_simp; rfl)) ?aP (fun _ hk => hk.elim) ?aF ?aO ?aB ?aS ?aL ?_; (case aP => exact rfl); (case aB => exact (bl1 GE864)); (case aF => exact (fun _ _ => trivial)); (case aO => exact (by (with_reducible repeat (first | apply Kd.R_alloc | apply Kd.R_drewN | apply Kd.R_drew)); exact Kd.R_mono (Kd.R_far (p := ⟨gb864, 1, none⟩) (Kd.R_far (p := ⟨gb864, 0, none⟩) (Kd.R_types HO_14.out BK864.out (by decide)) (fun _ hk => hk.2) (.int .i64 ((rd_T37 t859 x26_1).f0))) (fun _ hk => hk.2) (.int .i64 ((rd_T37 t859 x26_1).f1))) (fun _ hk => trivial))); (case aS => exact (below_size (bl1 GE864))); (case aL => have := LMc14.out; omega); intro v866 w17 ho hb hg hat; rw [← Ny865.out] at ho; replace HO_24 := ak (Kd.R_over' (by (with_reducible repeat (first | apply Kd.R_alloc | apply Kd.R_drewN | apply Kd.R_drew)); exact (Kd.R_mono (Kd.R_far (p := ⟨gb864, 1, none⟩) (Kd.R_far (p := ⟨gb864, 0, none⟩) (Kd.R_mono HO_24.out (fun k_ hk => (⟨hk, hk.2⟩ : _ ∧ k_ ≠ gb864))) (fun _ hk => hk.2) (.int .i64 ((rd_T37 t859 x26_1).f0))) (fun _ hk => hk.2) (.int .i64 ((rd_T37 t859 x26_1).f1))) (fun _ h_ => h_.1))) (Kd.R_typed (by (with_reducible repeat (first | apply Kd.R_alloc | apply Kd.R_drewN | apply Kd.R_drew)); exact (Kd.R_mono (Kd.R_far (p := ⟨gb864, 1, none⟩) (Kd.R_far (p := ⟨gb864, 0, none⟩) (Kd.R_types HO_14.out BK864.out (by decide)) (fun _ hk => hk.2) (.int .i64 ((rd_T37 t859 x26_1).f0))) (fun _ hk => hk.2) (.int .i64 ((rd_T37 t859 x26_1).f1))) (fun _ h_ => h_.1)))) (by decide) hg); replace BK864 := ak (blk_grown (g := gb864) (o := .cells #[.int .i64 ((rd_T37 t859 x26_1).f0), .int .i64 ((rd_T37 t859 x26_1).f1)] 37 (0, 0)) (by (with_reducible repeat (first | refine blk_drewN ?_ _ | refine blk_drew ?_ | refine blk_alloc ?_ _)); refine blk_put (cs := #[.int .i64 ((rd_T37 t859 x26_1).f0), .int .i64 0]) ?_ 1 _ rfl; (with_reducible repeat (first | refine blk_drewN ?_ _ | refine blk_drew ?_ | refine blk_alloc ?_ _)); refine blk_put (cs := #[.int .i64 0, .int .i64 0]) ?_ 0 _ rfl; (with_reducible repeat (first | refine blk_drewN ?_ _ | refine blk_drew ?_ | refine blk_alloc ?_ _)); exact BK864.out) hg (Kd.R_ne HO_14.out BK864.out (by decide))); replace HB := ak hb; have HO867 := ak ho; clear HO_14; clear ho hb hg hat))
               go_roundg k1
               case measure => have := HK1.out; omega
               case rel => exact ⟨(y865), (wrap64 (x26_1 + 1)), es, H', ⟨kp⟩, ⟨kr HO867⟩, ⟨by (with_reducible repeat (first | apply Kd.R_alloc | apply Kd.R_drewN | apply Kd.R_drew)); exact Kd.R_mono HO_24.out (fun _ hk => trivial)⟩, ⟨bl1 GE864⟩⟩
             · rw [if_neg c14] at H
               exact absurd H (by simp)
           · rw [if_neg c13] at H
             have c13b0 : decide (((rd_T37 t859 x26_1).f0) ≤ a4) = false := decide_eq_false c13
             clear c13
             have H' := Aside0.mk H
             clear H
             have p863 : 0 ≤ (x26_1 : Int) := of_decide_eq_true am
             have q863 : x26_1 < (t859.length : Int) := of_decide_eq_true am
             obtain ⟨ad863, e863, hx863_0, hx863_1⟩ := at_T37 (Kd.R_reads' HO_24.out).2.2 x26_1 p863 q863
             cases e863
             replace p863 := eq_true p863
             replace q863 := eq_true q863
             go_wp2_with (first | ((with_reducible refine gate_dst (N := 16) rfl ?_); refine bx 16 #[.int .i64 0, .int .i64 0] 37 ?_; intro gb864 hg w18 hbox hb; replace HO_14 := ak (Kd.R_below (kr HO_14) hb); replace HO_24 := ak (Kd.R_below (Kd.R_elderB (kr HO_24) gb864 (Nat.le_of_eq hg.symm)) hb); have BK864 := ak hbox; have GW864 := gs hg bl; have GE864 := gs hg bl; replace HB := ak (below_step bl hb); clear hb hbox hg; obtain ⟨hcz19_0, hcz19_1, hfz19_0, hfz19_1⟩ := cz2 BK864))
             go_roundg k1
             case measure => have := HK1.out; omega
             case rel => exact ⟨(x14_1), (wrap64 (x26_1 + 1)), es, H', ⟨kp⟩, ⟨by (with_reducible repeat (first | apply Kd.R_alloc | apply Kd.R_drewN | apply Kd.R_drew)); exact Kd.R_mono (Kd.R_far (p := ⟨gb864, 1, none⟩) (Kd.R_far (p := ⟨gb864, 0, none⟩) (Kd.R_types HO_14.out BK864.out (by decide)) (fun _ hk => hk.2) (.int .i64 ((rd_T37 t859 x26_1).f0))) (fun _ hk => hk.2) (.int .i64 ((rd_T37 t859 x26_1).f1))) (fun _ hk => trivial)⟩, ⟨by (with_reducible repeat (first | apply Kd.R_alloc | apply Kd.R_drewN | apply Kd.R_drew)); exact Kd.R_mono (Kd.R_far (p := ⟨gb864, 1, none⟩) (Kd.R_far (p := ⟨gb864, 0, none⟩) (Kd.R_mono HO_24.out (fun k_ hk => (⟨hk, hk.2⟩ : _ ∧ k_ ≠ gb864))) (fun _ hk => hk.2) (.int .i64 ((rd_T37 t859 x26_1).f0))) (fun _ hk => hk.2) (.int .i64 ((rd_T37 t859 x26_1).f1))) (fun _ hk => trivial)⟩, ⟨bl1 GE864⟩⟩
         · rw [if_neg c12] at H
           have c12b0 : decide (a3 < ((rd_T37 t859 x26_1).f0)) = false := decide_eq_false c12
           clear c12
           have H' := Aside0.mk H
           clear H
           have p863 : 0 ≤ (x26_1 : Int) := of_decide_eq_true am
           have q863 : x26_1 < (t859.length : Int) := of_decide_eq_true am
           obtain ⟨ad863, e863, hx863_0, hx863_1⟩ := at_T37 (Kd.R_reads' HO_24.out).2.2 x26_1 p863 q863
           cases e863
           replace p863 := eq_true p863
           replace q863 := eq_true q863
           go_wp2_with (first | ((with_reducible refine gate_dst (N := 16) rfl ?_); refine bx 16 #[.int .i64 0, .int .i64 0] 37 ?_; intro gb864 hg w20 hbox hb; replace HO_14 := ak (Kd.R_below (kr HO_14) hb); replace HO_24 := ak (Kd.R_below (Kd.R_elderB (kr HO_24) gb864 (Nat.le_of_eq hg.symm)) hb); have BK864 := ak hbox; have GW864 := gs hg bl; have GE864 := gs hg bl; replace HB := ak (below_step bl hb); clear hb hbox hg; obtain ⟨hcz21_0, hcz21_1, hfz21_0, hfz21_1⟩ := cz2 BK864))
           go_roundg k1
           case measure => have := HK1.out; omega
           case rel => exact ⟨(x14_1), (wrap64 (x26_1 + 1)), es, H', ⟨kp⟩, ⟨by (with_reducible repeat (first | apply Kd.R_alloc | apply Kd.R_drewN | apply Kd.R_drew)); exact Kd.R_mono (Kd.R_far (p := ⟨gb864, 1, none⟩) (Kd.R_far (p := ⟨gb864, 0, none⟩) (Kd.R_types HO_14.out BK864.out (by decide)) (fun _ hk => hk.2) (.int .i64 ((rd_T37 t859 x26_1).f0))) (fun _ hk => hk.2) (.int .i64 ((rd_T37 t859 x26_1).f1))) (fun _ hk => trivial)⟩, ⟨by (with_reducible repeat (first | apply Kd.R_alloc | apply Kd.R_drewN | apply Kd.R_drew)); exact Kd.R_mono (Kd.R_far (p := ⟨gb864, 1, none⟩) (Kd.R_far (p := ⟨gb864, 0, none⟩) (Kd.R_mono HO_24.out (fun k_ hk => (⟨hk, hk.2⟩ : _ ∧ k_ ≠ gb864))) (fun _ hk => hk.2) (.int .i64 ((rd_T37 t859 x26_1).f0))) (fun _ hk => hk.2) (.int .i64 ((rd_T37 t859 x26_1).f1))) (fun _ hk => trivial)⟩, ⟨bl1 GE864⟩⟩
       · rw [if_neg c11] at H
         exact absurd H (by simp)
     · rw [if_neg c10] at H
       exact absurd H (by simp)
   · rw [if_neg c9] at H
     have c9b0 : decide (x26_1 < (t859.length : Int)) = false := decide_eq_false c9
     clear c9
     replace H := Option.bind_eq_some_iff.mp H
     obtain ⟨⟨t868, t869⟩, A220, H⟩ := H
     replace H : (some (t868, t869)) = some (r1, r2) := H
     have A22 := Aside0.mk A220
     clear A220
     simp only [Option.some.injEq, Prod.mk.injEq] at H
     obtain ⟨rfl, rfl⟩ := H
     obtain ⟨Ao23, co23, eo23⟩ := Kd.R_slice HO_14.out
     subst eo23
     go_wp2_with (first | ((with_reducible refine gate_callee (f := 158) rfl ?_); refine gl (some 47) Try.func158 #[.slice Ao23 x14_1.length co23] ?_; (with_reducible refine (impl_MeanOf.calls k1 _ _ x14_1 t868 t869 _ ?side1 ?side2 A22.out).mono ?_); (case side1 => repeat (first | exact (Kd.R_reads' HO_14.out).2.2 | (with_reducible refine Kd.C_alloc ?_ _) | (with_reducible refine Kd.C_drewN ?_ _) | (with_reducible refine Kd.C_drew ?_))); (case side2 => exact (Kd.R_reads' HO_14.out).2.1); rintro e w24 ⟨rfl, hb⟩; refine ⟨_, rfl, ?_⟩; replace HO_14 := ak (Kd.R_below (kr HO_14) hb); replace HO_24 := ak (Kd.R_below (kr HO_24) hb); replace HB := ak (below_step bl hb); (try clear hb); (try clear hb2); (try clear hk); (try clear hi)))
     go_ret2
     exact ⟨ew, bl⟩

end Go.Proofs.Ytplekidnlofioaa.Q
namespace Go.Proofs.Ytplekidnlofioaa.Q
open Go.RowKit Go.Proofs.YtplekidnlofioaaW.PrintWords Go.Proofs.YtplekidnlofioaaW.PrintLast Go.Proofs.YtplekidnlofioaaW.PrintMore
attribute [local go_sem] max2_int min2_int max_two min_two max_three min_three max_four min_four   -- for this text's walks alone
set_option linter.unusedVariables false
set_option linter.unusedSimpArgs false

/-! ### impl_CountClass: function 107 -/
def impl_CountClass.l0 : Nat → Int → Int → List Int → Int → Int → Option (Int)
 | 0, _, _, _, _, _ => none
 | k + 1, x1, x5, x8, x9, x10 => if x10 < x9 then (if 0 ≤ x10 then (if x10 < (x8.length : Int) then (if (rd x8 x10) = x1 then (impl_CountClass.l0 k x1 (wrap64 (x5 + 1)) x8 x9 (wrap64 (x10 + 1))) else (impl_CountClass.l0 k x1 x5 x8 x9 (wrap64 (x10 + 1)))) else (none)) else (none)) else (some x5)
def impl_CountClass.f (k : Nat) (l0 : List Int) (a1 : Int) : Option (Int) := impl_CountClass.l0 k a1 0 l0 (l0.length : Int) 0
theorem impl_CountClass.mono_l : ∀ k, (∀ y0 y1 y2 y3 y4, LeO (impl_CountClass.l0 k y0 y1 y2 y3 y4) (impl_CountClass.l0 (k + 1) y0 y1 y2 y3 y4))
 | 0 => fun _ _ _ _ _ r h => by simp [impl_CountClass.l0] at h
 | k + 1 => by
  have ih0 := impl_CountClass.mono_l k
  · intro y0 y1 y2 y3 y4
    unfold impl_CountClass.l0
    repeat' first
    | (with_reducible exact ih0 _ _ _ _ _)
    | (with_reducible exact LeO.refl _)
    | (with_reducible exact LeO.none _)
    | (with_reducible refine LeO.ite ?_ ?_)
    | (with_reducible refine LeO.bind ?_ (fun _ => ?_))
    | exact ih0 _ _ _ _ _
    | exact LeO.none _
    | refine LeO.ite ?_ ?_
    | refine LeO.bind ?_ (fun _ => ?_)
theorem impl_CountClass.mono : ∀ a0 a1 k, LeO (impl_CountClass.f k a0 a1) (impl_CountClass.f (k + 1) a0 a1) := by
 intro a0 a1 k
 have ih0 := impl_CountClass.mono_l k
 unfold impl_CountClass.f
 repeat' first
  | (with_reducible exact ih0 _ _ _ _ _)
  | (with_reducible exact LeO.refl _)
  | (with_reducible exact LeO.none _)
  | (with_reducible refine LeO.ite ?_ ?_)
  | (with_reducible refine LeO.bind ?_ (fun _ => ?_))
  | exact ih0 _ _ _ _ _
  | exact LeO.none _
  | refine LeO.ite ?_ ?_
  | refine LeO.bind ?_ (fun _ => ?_)
set_option maxHeartbeats 8000000 in
set_option maxRecDepth 100000 in
theorem impl_CountClass.calls (k : Nat) (A0 : Option Addr) (c0 : Nat) (l0 : List Int) (a1 : Int) (r : Int) (w : World) (hr0 : Kd.C (Kd.int .i64) w A0 l0.length l0) (hc0 : l0.length ≤ c0) (h : impl_CountClass.f k l0 a1 = some r) :
 Calls Try.prog 107 #[.slice A0 l0.length c0, .int .i64 a1] w fun e w' => e = .returned (.int .i64 r) ∧ Drawn0 w w' := by
 have HR0 := Aside0.mk hr0
 have HC0 := Aside0.mk hc0
 clear hr0 hc0
 have H : (impl_CountClass.l0 k a1 0 l0 (l0.length : Int) 0) = some r := h
 clear h
 have H' := Aside0.mk H
 clear H
 go_enter Try.func107, Try.ntmps107
 go_wp2
 go_loopg [5, 10] k (fun kq v5 v10 w' => ∃ (x5_1 : Int) (x10_1 : Int), v5 = .int .i64 x5_1 ∧ v10 = .int .i64 x10_1 ∧ Aside0 (impl_CountClass.l0 kq a1 x5_1 l0 (l0.length : Int) x10_1 = some r) ∧ Aside0 (kq ≤ k) ∧ Drawn0 w w')
 case atStart => exact ⟨(0), (0), es, es, H', ⟨Nat.le_refl _⟩, dr0⟩
 case round =>
  clear H'
  try clear c1
  try clear p2
  obtain ⟨x5_1, x10_1, rfl, rfl, HA, HK1, ⟨m1, rfl⟩⟩ := hrel
  cases gk with
  | zero => exact absurd HA.out (by simp [impl_CountClass.l0])
  | succ k1 =>
   have H := HA.out
   clear HA
   simp only [impl_CountClass.l0] at H
   by_cases c3 : x10_1 < (l0.length : Int)
   · rw [if_pos c3] at H
     have c3b0 : decide (x10_1 < (l0.length : Int)) = true := decide_eq_true c3
     clear c3
     by_cases c4 : 0 ≤ x10_1
     · rw [if_pos c4] at H
       have c4b0 : decide (0 ≤ x10_1) = true := decide_eq_true c4
       clear c4
       by_cases c5 : x10_1 < (l0.length : Int)
       · rw [if_pos c5] at H
         have c5b0 : decide (x10_1 < (l0.length : Int)) = true := decide_eq_true c5
         clear c5
         by_cases c6 : (rd l0 x10_1) = a1
         · rw [if_pos c6] at H
           have c6b0 : ((rd l0 x10_1) == a1) = true := beq_iff_eq.mpr c6
           have c6b1 : ((rd l0 x10_1) != a1) = false := bne_eq_false_iff_eq.mpr c6
           clear c6
           have H' := Aside0.mk H
           clear H
           have p870 : 0 ≤ (x10_1 : Int) := of_decide_eq_true am
           have q870 : x10_1 < (l0.length : Int) := of_decide_eq_true am
           obtain ⟨ad870, e870, hx870_0⟩ := Kd.at_int HR0.out x10_1 p870 q870
           cases e870
           replace p870 := eq_true p870
           replace q870 := eq_true q870
           go_wp2
           go_roundg k1
           case measure => have := HK1.out; omega
           case rel => exact ⟨(wrap64 (x5_1 + 1)), (wrap64 (x10_1 + 1)), es, es, H', ⟨kp⟩, dr0⟩
         · rw [if_neg c6] at H
           have c6b0 : ((rd l0 x10_1) == a1) = false := beq_eq_false_iff_ne.mpr c6
           have c6b1 : ((rd l0 x10_1) != a1) = true := bne_iff_ne.mpr c6
           have H' := Aside0.mk H
           clear H
           have p870 : 0 ≤ (x10_1 : Int) := of_decide_eq_true am
           have q870 : x10_1 < (l0.length : Int) := of_decide_eq_true am
           obtain ⟨ad870, e870, hx870_0⟩ := Kd.at_int HR0.out x10_1 p870 q870
           cases e870
           replace p870 := eq_true p870
           replace q870 := eq_true q870
           go_wp2
           go_roundg k1
           case measure => have := HK1.out; omega
           case rel => exact ⟨(x5_1), (wrap64 (x10_1 + 1)), es, es, H', ⟨kp⟩, dr0⟩
       · rw [if_neg c5] at H
         exact absurd H (by simp)
     · rw [if_neg c4] at H
       exact absurd H (by simp)
   · rw [if_neg c3] at H
     have c3b0 : decide (x10_1 < (l0.length : Int)) = false := decide_eq_false c3
     clear c3
     obtain rfl := Option.some.inj H
     go_wp2
     go_ret
     exact ⟨es, dr0⟩

end Go.Proofs.Ytplekidnlofioaa.Q
namespace Go.Proofs.Ytplekidnlofioaa.Q
open Go.RowKit Go.Proofs.YtplekidnlofioaaW.PrintWords Go.Proofs.YtplekidnlofioaaW.PrintLast Go.Proofs.YtplekidnlofioaaW.PrintMore
attribute [local go_sem] max2_int min2_int max_two min_two max_three min_three max_four min_four   -- for this text's walks alone
set_option linter.unusedVariables false
set_option linter.unusedSimpArgs false

/-! ### impl_LatestOf: function 20 -/
def impl_LatestOf.f (k : Nat) (l0 : List (S81)) (a1 : ByteArray) (a2 : ByteArray) : Option (Int × Int × Bool) := (impl_SeriesOf.f k l0 a1 a2).bind fun bt202 => (if bt202.2 = true then (if 0 ≤ (wrap64 ((bt202.1.length : Int) - 1)) then (if (wrap64 ((bt202.1.length : Int) - 1)) < (bt202.1.length : Int) then (some ((rd_T37 bt202.1 (wrap64 ((bt202.1.length : Int) - 1))).f0, (rd_T37 bt202.1 (wrap64 ((bt202.1.length : Int) - 1))).f1, true)) else (none)) else (none)) else (some (0, 0, false)))
theorem impl_LatestOf.mono : ∀ a0 a1 a2 k, LeO (impl_LatestOf.f k a0 a1 a2) (impl_LatestOf.f (k + 1) a0 a1 a2) := by
 intro a0 a1 a2 k
 unfold impl_LatestOf.f
 repeat' first
  | (with_reducible exact impl_SeriesOf.mono _ _ _ _)
  | (with_reducible exact LeO.refl _)
  | (with_reducible exact LeO.none _)
  | (with_reducible refine LeO.ite ?_ ?_)
  | (with_reducible refine LeO.bind ?_ (fun _ => ?_))
  | exact impl_SeriesOf.mono _ _ _ _
  | exact LeO.none _
  | refine LeO.ite ?_ ?_
  | refine LeO.bind ?_ (fun _ => ?_)
set_option maxHeartbeats 8000000 in
set_option maxRecDepth 100000 in
theorem impl_LatestOf.calls (k : Nat) (A0 : Option Addr) (c0 : Nat) (l0 : List (S81)) (a1 : ByteArray) (a2 : ByteArray) (r1 : Int) (r2 : Int) (r3 : Bool) (w : World) (hr0 : Kd.C k81 w A0 l0.length l0) (hc0 : l0.length ≤ c0) (h : impl_LatestOf.f k l0 a1 a2 = some (r1, r2, r3)) :
 Calls Try.prog 20 #[.slice A0 l0.length c0, .string a1, .string a2] w fun e w' => e = .returned (.tuple #[.agg #[.int .i64 r1, .int .i64 r2], .bool r3]) ∧ Below w.heap.size w w' := by
 have hu37 := Try.underlying37
 have HR0 := Aside0.mk hr0
 have HC0 := Aside0.mk hc0
 clear hr0 hc0
 have HB := Aside0.mk (Below.refl w.heap.size w)
 have H : ((impl_SeriesOf.f k l0 a1 a2).bind fun bt202 => (if bt202.2 = true then (if 0 ≤ (wrap64 ((bt202.1.length : Int) - 1)) then (if (wrap64 ((bt202.1.length : Int) - 1)) < (bt202.1.length : Int) then (some ((rd_T37 bt202.1 (wrap64 ((bt202.1.length : Int) - 1))).f0, (rd_T37 bt202.1 (wrap64 ((bt202.1.length : Int) - 1))).f1, true)) else (none)) else (none)) else (some (0, 0, false)))) = some (r1, r2, r3) := h
 clear h
 replace H := Option.bind_eq_some_iff.mp H
 obtain ⟨⟨t202, t203⟩, A40, H⟩ := H
 replace H : (if t203 = true then (if 0 ≤ (wrap64 ((t202.length : Int) - 1)) then (if (wrap64 ((t202.length : Int) - 1)) < (t202.length : Int) then (some ((rd_T37 t202 (wrap64 ((t202.length : Int) - 1))).f0, (rd_T37 t202 (wrap64 ((t202.length : Int) - 1))).f1, true)) else (none)) else (none)) else (some (0, 0, false))) = some (r1, r2, r3) := H
 have A4 := Aside0.mk A40
 clear A40
 by_cases c5 : t203 = true
 · subst c5
   replace H := iT H
   obtain ⟨ji6, hji6⟩ : ∃ j_ : Int, (wrap64 ((t202.length : Int) - 1)) = j_ := ⟨_, rfl⟩
   replace H : (if 0 ≤ (ji6) then (if (ji6) < (t202.length : Int) then (some ((rd_T37 t202 (ji6)).f0, (rd_T37 t202 (ji6)).f1, true)) else (none)) else (none)) = some (r1, r2, r3) := by first | (rw [hji6] at H; exact H) | (simp only [hji6] at H ⊢; exact H)
   (try rw [hji6] at A4)
   have hji6w : (IntKind.i64.wrap ((t202.length : Int) - 1)) = ji6 := (i64_w _).trans hji6
   by_cases c7 : 0 ≤ (ji6)
   · rw [if_pos c7] at H
     have c7b0 : decide (0 ≤ (ji6)) = true := decide_eq_true c7
     clear c7
     by_cases c8 : (ji6) < (t202.length : Int)
     · rw [if_pos c8] at H
       have c8b0 : decide ((ji6) < (t202.length : Int)) = true := decide_eq_true c8
       clear c8
       simp only [Option.some.injEq, Prod.mk.injEq] at H
       obtain ⟨rfl, rfl, rfl⟩ := H
       go_enter Try.func20, Try.ntmps20
       go_wp2_with (first | ((with_reducible refine gate_dst (N := 6) rfl ?_); refine bx 6 #[.int .i64 0, .int .i64 0] 37 ?_; intro gb201 hg w9 hbox hb; have BK201 := ak hbox; have GW201 := gs hg bl; have GE201 := gs hg bl; replace HB := ak (below_step bl hb); clear hb hbox hg) | ((with_reducible refine gate_callee (f := 15) rfl ?_); refine gl (some 14) Try.func15 #[.slice A0 l0.length c0, .string a1, .string a2] ?_; (with_reducible refine (impl_SeriesOf.calls k _ _ l0 a1 a2 t202 true _ ?side1 ?side2 A4.out).mono ?_); (case side1 => exact cb HR0); (case side2 => exact HC0.out); rintro e w10 ⟨v204, rfl, ho0, hb⟩; refine ⟨_, rfl, ?_⟩; have HO205 := ak (Kd.R_lower (Kd.R_newB ho0 (g := gb201) (o := .cells #[.int .i64 0, .int .i64 0] 37 (0, 0)) (bk BK201)) (below_size (bl1 GE201))); replace BK201 := bb BK201 hb; replace HB := ak (below_step (bl1 GE201) hb); (try clear hb); (try clear hb2); (try clear hk); (try clear hi); (try clear ho0); obtain ⟨Ao11, co11, eo11⟩ := Kd.R_slice HO205.out; subst eo11; have p206 : 0 ≤ ((ji6) : Int) := of_decide_eq_true am; have q206 : (ji6) < (t202.length : Int) := of_decide_eq_true am; obtain ⟨ad206, e206, hx206_0, hx206_1⟩ := at_T37 (Kd.R_reads' HO205.out).2.2 (ji6) p206 q206; cases e206; replace p206 := eq_true p206; replace q206 := eq_true q206; obtain ⟨hcz12_0, hcz12_1, hfz12_0, hfz12_1⟩ := cz2 BK201))
       refine bodyPost_ret (results_ct rfl _ _ gb201 37 #[.int .i64 ((rd_T37 t202 (ji6)).f0), .int .i64 ((rd_T37 t202 (ji6)).f1)] (0, 0) _ rfl (by (with_reducible repeat (first | refine blk_drewN ?_ _ | refine blk_drew ?_ | refine blk_alloc ?_ _)); refine blk_put (cs := #[.int .i64 ((rd_T37 t202 (ji6)).f0), .int .i64 0]) ?_ 1 _ rfl; (with_reducible repeat (first | refine blk_drewN ?_ _ | refine blk_drew ?_ | refine blk_alloc ?_ _)); refine blk_put (cs := #[.int .i64 0, .int .i64 0]) ?_ 0 _ rfl; (with_reducible repeat (first | refine blk_drewN ?_ _ | refine blk_drew ?_ | refine blk_alloc ?_ _)); exact BK201.out) Try.underlying37 rfl (by kernel_rfl)) rfl ?_
       exact ⟨by first | rfl | (simp [errW_none, errW_some] <;> rfl) | (simp only [← hji6]; first | rfl | (simp [errW_none, errW_some] <;> rfl)) | (simp [*, errW_none, errW_some] <;> rfl), bl1 GE201⟩
     · rw [if_neg c8] at H
       exact absurd H (by simp)
   · rw [if_neg c7] at H
     exact absurd H (by simp)
 · replace c5 := Bool.eq_false_iff.mpr c5
   subst c5
   replace H := iF H
   simp only [Option.some.injEq, Prod.mk.injEq] at H
   obtain ⟨rfl, rfl, rfl⟩ := H
   go_enter Try.func20, Try.ntmps20
   go_wp2_with (first | ((with_reducible refine gate_dst (N := 6) rfl ?_); refine bx 6 #[.int .i64 0, .int .i64 0] 37 ?_; intro gb201 hg w13 hbox hb; have BK201 := ak hbox; have GW201 := gs hg bl; have GE201 := gs hg bl; replace HB := ak (below_step bl hb); clear hb hbox hg) | ((with_reducible refine gate_callee (f := 15) rfl ?_); refine gl (some 14) Try.func15 #[.slice A0 l0.length c0, .string a1, .string a2] ?_; (with_reducible refine (impl_SeriesOf.calls k _ _ l0 a1 a2 t202 false _ ?side1 ?side2 A4.out).mono ?_); (case side1 => exact cb HR0); (case side2 => exact HC0.out); rintro e w14 ⟨v204, rfl, ho0, hb⟩; refine ⟨_, rfl, ?_⟩; have HO205 := ak (Kd.R_lower (Kd.R_newB ho0 (g := gb201) (o := .cells #[.int .i64 0, .int .i64 0] 37 (0, 0)) (bk BK201)) (below_size (bl1 GE201))); replace BK201 := bb BK201 hb; replace HB := ak (below_step (bl1 GE201) hb); (try clear hb); (try clear hb2); (try clear hk); (try clear hi); (try clear ho0); obtain ⟨hcz15_0, hcz15_1, hfz15_0, hfz15_1⟩ := cz2 BK201))
   refine bodyPost_ret (results_ct rfl _ _ gb201 37 #[.int .i64 0, .int .i64 0] (0, 0) _ rfl (by (with_reducible repeat (first | refine blk_drewN ?_ _ | refine blk_drew ?_ | refine blk_alloc ?_ _)); refine blk_put (cs := #[.int .i64 0, .int .i64 0]) ?_ 1 _ rfl; (with_reducible repeat (first | refine blk_drewN ?_ _ | refine blk_drew ?_ | refine blk_alloc ?_ _)); refine blk_put (cs := #[.int .i64 0, .int .i64 0]) ?_ 0 _ rfl; (with_reducible repeat (first | refine blk_drewN ?_ _ | refine blk_drew ?_ | refine blk_alloc ?_ _)); exact BK201.out) Try.underlying37 rfl (by kernel_rfl)) rfl ?_
   exact ⟨ew, bl1 GE201⟩

end Go.Proofs.Ytplekidnlofioaa.Q
namespace Go.Proofs.Ytplekidnlofioaa.Q
open Go.RowKit Go.Proofs.YtplekidnlofioaaW.PrintWords Go.Proofs.YtplekidnlofioaaW.PrintLast Go.Proofs.YtplekidnlofioaaW.PrintMore
attribute [local go_sem] max2_int min2_int max_two min_two max_three min_three max_four min_four   -- for this text's walks alone
set_option linter.unusedVariables false
set_option linter.unusedSimpArgs false

/-! ### impl_PodOk: function 139 -/
def impl_PodOk.f (k : Nat) (a0_0 : ByteArray) (a0_1 : Int) (a0_2 : Int) (a0_3 : Bool) : Option (Bool) := (impl_NameOk.f k a0_0).bind fun t433 => (if t433 = true then ((impl_isTick.f a0_1).bind fun t434 => (if t434 = true then ((impl_in.f a0_2 0 2).bind fun t435 => (some t435)) else (some false))) else (some false))
theorem impl_PodOk.mono : ∀ a0 a1 a2 a3 k, LeO (impl_PodOk.f k a0 a1 a2 a3) (impl_PodOk.f (k + 1) a0 a1 a2 a3) := by
 intro a0 a1 a2 a3 k
 unfold impl_PodOk.f
 repeat' first
  | (with_reducible exact impl_NameOk.mono _ _)
  | (with_reducible exact LeO.refl _)
  | (with_reducible exact LeO.none _)
  | (with_reducible refine LeO.ite ?_ ?_)
  | (with_reducible refine LeO.bind ?_ (fun _ => ?_))
  | exact impl_NameOk.mono _ _
  | exact LeO.none _
  | refine LeO.ite ?_ ?_
  | refine LeO.bind ?_ (fun _ => ?_)
set_option maxHeartbeats 8000000 in
set_option maxRecDepth 100000 in
theorem impl_PodOk.calls (k : Nat) (a0_0 : ByteArray) (a0_1 : Int) (a0_2 : Int) (a0_3 : Bool) (r : Bool) (w : World) (h : impl_PodOk.f k a0_0 a0_1 a0_2 a0_3 = some r) :
 Calls Try.prog 139 #[.agg #[.string a0_0, .int .i64 a0_1, .int .i64 a0_2, .bool a0_3]] w fun e w' => e = .returned (.bool r) ∧ Below w.heap.size w w' := by
 have hu147 := Try.underlying147
 have HB := Aside0.mk (Below.refl w.heap.size w)
 have H : ((impl_NameOk.f k a0_0).bind fun t433 => (if t433 = true then ((impl_isTick.f a0_1).bind fun t434 => (if t434 = true then ((impl_in.f a0_2 0 2).bind fun t435 => (some t435)) else (some false))) else (some false))) = some r := h
 clear h
 obtain ⟨t433, A20, H⟩ := bo H
 have A2 := Aside0.mk A20
 clear A20
 by_cases c3 : t433 = true
 · subst c3
   replace H := iT H
   obtain ⟨t434, A40, H⟩ := bo H
   have A4 := Aside0.mk A40
   clear A40
   by_cases c5 : t434 = true
   · subst c5
     replace H := iT H
     obtain ⟨t435, A60, H⟩ := bo H
     have A6 := Aside0.mk A60
     clear A60
     obtain rfl := Option.some.inj H
     go_enter Try.func139, Try.ntmps139
     go_wp2_with (first | ((with_reducible refine gate_dst (N := 1) rfl ?_); refine bx 1 #[.string a0_0, .int .i64 a0_1, .int .i64 a0_2, .bool a0_3] 147 ?_; intro gb432 hg w7 hbox hb; have BK432 := ak hbox; have GW432 := gs hg bl; have GE432 := gs hg bl; replace HB := ak (below_step bl hb); clear hb hbox hg; obtain ⟨hcz8_0, hcz8_1, hcz8_2, hcz8_3, hfz8_0, hfz8_1, hfz8_2, hfz8_3⟩ := cz4 BK432) | ((with_reducible refine gate_callee (f := 151) rfl ?_); refine gl (some 5) Try.func151 #[.string a0_0] ?_; (with_reducible refine (impl_NameOk.calls k a0_0 true _ A2.out).mono ?_); rintro e w' ⟨rfl, ⟨nd, rfl⟩⟩; refine ⟨_, rfl, ?_⟩) | (go_at_call 122; (with_reducible refine (impl_isTick.calls a0_1 true _ A4.out).mono ?_); rintro e w' ⟨rfl, ⟨nd, rfl⟩⟩) | (go_at_call 124; (with_reducible refine (impl_in.calls a0_2 0 2 t435 _ A6.out).mono ?_); rintro e w' ⟨rfl, ⟨nd, rfl⟩⟩))
     go_ret
     exact ⟨ew, bl1 GE432⟩
   · replace c5 := Bool.eq_false_iff.mpr c5
     subst c5
     replace H := iF H
     obtain rfl := Option.some.inj H
     go_enter Try.func139, Try.ntmps139
     go_wp2_with (first | ((with_reducible refine gate_dst (N := 1) rfl ?_); refine bx 1 #[.string a0_0, .int .i64 a0_1, .int .i64 a0_2, .bool a0_3] 147 ?_; intro gb432 hg w9 hbox hb; have BK432 := ak hbox; have GW432 := gs hg bl; have GE432 := gs hg bl; replace HB := ak (below_step bl hb); clear hb hbox hg; obtain ⟨hcz10_0, hcz10_1, hcz10_2, hcz10_3, hfz10_0, hfz10_1, hfz10_2, hfz10_3⟩ := cz4 BK432) | ((with_reducible refine gate_callee (f := 151) rfl ?_); refine gl (some 5) Try.func151 #[.string a0_0] ?_; (with_reducible refine (impl_NameOk.calls k a0_0 true _ A2.out).mono ?_); rintro e w' ⟨rfl, ⟨nd, rfl⟩⟩; refine ⟨_, rfl, ?_⟩) | (go_at_call 122; (with_reducible refine (impl_isTick.calls a0_1 false _ A4.out).mono ?_); rintro e w' ⟨rfl, ⟨nd, rfl⟩⟩))
     go_ret
     exact ⟨ew, bl1 GE432⟩
 · replace c3 := Bool.eq_false_iff.mpr c3
   subst c3
   replace H := iF H
   obtain rfl := Option.some.inj H
   go_enter Try.func139, Try.ntmps139
   go_wp2_with (first | ((with_reducible refine gate_dst (N := 1) rfl ?_); refine bx 1 #[.string a0_0, .int .i64 a0_1, .int .i64 a0_2, .bool a0_3] 147 ?_; intro gb432 hg w11 hbox hb; have BK432 := ak hbox; have GW432 := gs hg bl; have GE432 := gs hg bl; replace HB := ak (below_step bl hb); clear hb hbox hg; obtain ⟨hcz12_0, hcz12_1, hcz12_2, hcz12_3, hfz12_0, hfz12_1, hfz12_2, hfz12_3⟩ := cz4 BK432) | ((with_reducible refine gate_callee (f := 151) rfl ?_); refine gl (some 5) Try.func151 #[.string a0_0] ?_; (with_reducible refine (impl_NameOk.calls k a0_0 false _ A2.out).mono ?_); rintro e w' ⟨rfl, ⟨nd, rfl⟩⟩; refine ⟨_, rfl, ?_⟩))
   go_ret
   exact ⟨ew, bl1 GE432⟩

end Go.Proofs.Ytplekidnlofioaa.Q
namespace Go.Proofs.Ytplekidnlofioaa.Q
open Go.RowKit Go.Proofs.YtplekidnlofioaaW.PrintWords Go.Proofs.YtplekidnlofioaaW.PrintLast Go.Proofs.YtplekidnlofioaaW.PrintMore
attribute [local go_sem] max2_int min2_int max_two min_two max_three min_three max_four min_four   -- for this text's walks alone
set_option linter.unusedVariables false
set_option linter.unusedSimpArgs false

/-! ### impl_PodsOk: function 89 -/
def impl_PodsOk.l0 : Nat → List (S147) → List (S147) → Int → Int → Option (Bool)
 | 0, _, _, _, _ => none
 | k + 1, x0, x5, x6, x7 => if x7 < x6 then (if 0 ≤ x7 then (if x7 < (x5.length : Int) then ((impl_PodOk.f k ((rd_T147 x5 x7).f0) ((rd_T147 x5 x7).f1) ((rd_T147 x5 x7).f2) ((rd_T147 x5 x7).f3)).bind fun t438 => (if t438 = true then (if x7 > 0 then (if 0 ≤ (wrap64 (x7 - 1)) then (if (wrap64 (x7 - 1)) < (x0.length : Int) then (if ((Op.bytesLess (((rd_T147 x0 (wrap64 (x7 - 1))).f0).toList) (((rd_T147 x5 x7).f0).toList)) = true) then (impl_PodsOk.l0 k x0 x5 x6 (wrap64 (x7 + 1))) else (some false)) else (none)) else (none)) else (impl_PodsOk.l0 k x0 x5 x6 (wrap64 (x7 + 1)))) else (some false))) else (none)) else (none)) else (some (decide ((x0.length : Int) ≤ 12)))
def impl_PodsOk.f (k : Nat) (l0 : List (S147)) : Option (Bool) := impl_PodsOk.l0 k l0 l0 (l0.length : Int) 0
theorem impl_PodsOk.mono_l : ∀ k, (∀ y0 y1 y2 y3, LeO (impl_PodsOk.l0 k y0 y1 y2 y3) (impl_PodsOk.l0 (k + 1) y0 y1 y2 y3))
 | 0 => fun _ _ _ _ r h => by simp [impl_PodsOk.l0] at h
 | k + 1 => by
  have ih0 := impl_PodsOk.mono_l k
  · intro y0 y1 y2 y3
    unfold impl_PodsOk.l0
    repeat' first
    | (with_reducible exact ih0 _ _ _ _)
    | (with_reducible exact impl_PodOk.mono _ _ _ _ _)
    | (with_reducible exact LeO.refl _)
    | (with_reducible exact LeO.none _)
    | (with_reducible refine LeO.ite ?_ ?_)
    | (with_reducible refine LeO.bind ?_ (fun _ => ?_))
    | exact ih0 _ _ _ _
    | exact impl_PodOk.mono _ _ _ _ _
    | exact LeO.none _
    | refine LeO.ite ?_ ?_
    | refine LeO.bind ?_ (fun _ => ?_)
theorem impl_PodsOk.mono : ∀ a0 k, LeO (impl_PodsOk.f k a0) (impl_PodsOk.f (k + 1) a0) := by
 intro a0 k
 have ih0 := impl_PodsOk.mono_l k
 unfold impl_PodsOk.f
 repeat' first
  | (with_reducible exact ih0 _ _ _ _)
  | (with_reducible exact impl_PodOk.mono _ _ _ _ _)
  | (with_reducible exact LeO.refl _)
  | (with_reducible exact LeO.none _)
  | (with_reducible refine LeO.ite ?_ ?_)
  | (with_reducible refine LeO.bind ?_ (fun _ => ?_))
  | exact ih0 _ _ _ _
  | exact impl_PodOk.mono _ _ _ _ _
  | exact LeO.none _
  | refine LeO.ite ?_ ?_
  | refine LeO.bind ?_ (fun _ => ?_)
def impl_PodsOk.T4 : Bool × List (List Nat × List Nat) := (true, [([], []), ([0], [0]), ([1], [1]), ([2, 1], [2]), ([3], [3]), ([4, 3], [3, 4]), ([5, 3, 3], [3, 5]), ([6], [6]), ([6], [6]), ([8, 6], [6, 8]), ([7, 9, 6], [6, 7, 9]), ([10, 6], [6, 10]), ([11, 6], [6, 11]), ([6], [6]), ([13, 6], [6, 13]), ([12, 14, 6], [6, 12, 14]), ([6, 15, 3], [3, 6, 15]), ([3, 16], [3, 16])])
def impl_PodsOk.B4 : List Nat := [0, 1, 3, 7, 15, 31, 63, 127, 127, 383, 1023, 2047, 4095, 127, 8319, 32767, 65535, 131071]
theorem impl_PodsOk.tab4 : rtab .any (opsOf Try.f89 4) = impl_PodsOk.T4 := by kernel_rfl
theorem impl_PodsOk.bits4 : waitsOk impl_PodsOk.T4.2 impl_PodsOk.B4 = true := by kernel_rfl
set_option maxHeartbeats 8000000 in
set_option maxRecDepth 100000 in
theorem impl_PodsOk.calls (k : Nat) (A0 : Option Addr) (c0 : Nat) (l0 : List (S147)) (r : Bool) (w : World) (hr0 : Kd.C k147 w A0 l0.length l0) (hc0 : l0.length ≤ c0) (h : impl_PodsOk.f k l0 = some r) :
 Calls Try.prog 89 #[.slice A0 l0.length c0] w fun e w' => e = .returned (.bool r) ∧ Below w.heap.size w w' := by
 have hu147 := Try.underlying147
 have HR0 := Aside0.mk hr0
 have HC0 := Aside0.mk hc0
 clear hr0 hc0
 have HB := Aside0.mk (Below.refl w.heap.size w)
 have H : (impl_PodsOk.l0 k l0 l0 (l0.length : Int) 0) = some r := h
 clear h
 have H' := Aside0.mk H
 clear H
 go_enter Try.func89, Try.ntmps89
 go_wp2
 go_loopg [7] k (fun kq v7 w' => ∃ (x7_1 : Int), v7 = .int .i64 x7_1 ∧ Aside0 (impl_PodsOk.l0 kq l0 l0 (l0.length : Int) x7_1 = some r) ∧ Aside0 (kq ≤ k) ∧ Aside0 (Below w.heap.size w w'))
 case atStart => exact ⟨(0), es, H', ⟨Nat.le_refl _⟩, ⟨bl⟩⟩
 case round =>
  clear H'
  obtain ⟨x7_1, rfl, HA, HK1, HB⟩ := hrel
  cases gk with
  | zero => exact absurd HA.out (by simp [impl_PodsOk.l0])
  | succ k1 =>
   have H := HA.out
   clear HA
   simp only [impl_PodsOk.l0] at H
   by_cases c2 : x7_1 < (l0.length : Int)
   · rw [if_pos c2] at H
     have c2b0 : decide (x7_1 < (l0.length : Int)) = true := decide_eq_true c2
     clear c2
     by_cases c3 : 0 ≤ x7_1
     · rw [if_pos c3] at H
       have c3b0 : decide (0 ≤ x7_1) = true := decide_eq_true c3
       clear c3
       by_cases c4 : x7_1 < (l0.length : Int)
       · rw [if_pos c4] at H
         have c4b0 : decide (x7_1 < (l0.length : Int)) = true := decide_eq_true c4
         clear c4
         obtain ⟨t438, A50, H⟩ := bo H
         have A5 := Aside0.mk A50
         clear A50
         by_cases c6 : t438 = true
         · subst c6
           replace H := iT H
           by_cases c7 : x7_1 > 0
           · rw [if_pos c7] at H
             have c7b0 : decide (0 < x7_1) = true := decide_eq_true c7
             clear c7
             obtain ⟨ji8, hji8⟩ : ∃ j_ : Int, (wrap64 (x7_1 - 1)) = j_ := ⟨_, rfl⟩
             replace H : (if 0 ≤ (ji8) then (if (ji8) < (l0.length : Int) then (if ((Op.bytesLess (((rd_T147 l0 (ji8)).f0).toList) (((rd_T147 l0 x7_1).f0).toList)) = true) then (impl_PodsOk.l0 k1 l0 l0 (l0.length : Int) (wrap64 (x7_1 + 1))) else (some false)) else (none)) else (none)) = some r := by first | (rw [hji8] at H; exact H) | (simp only [hji8] at H ⊢; exact H)
             (try rw [hji8] at A5)
             have hji8w : (IntKind.i64.wrap (x7_1 - 1)) = ji8 := (i64_w _).trans hji8
             by_cases c9 : 0 ≤ (ji8)
             · rw [if_pos c9] at H
               have c9b0 : decide (0 ≤ (ji8)) = true := decide_eq_true c9
               clear c9
               by_cases c10 : (ji8) < (l0.length : Int)
               · rw [if_pos c10] at H
                 have c10b0 : decide ((ji8) < (l0.length : Int)) = true := decide_eq_true c10
                 clear c10
                 by_cases c11 : ((Op.bytesLess (((rd_T147 l0 (ji8)).f0).toList) (((rd_T147 l0 x7_1).f0).toList)) = true)
                 · rw [if_pos c11] at H
                   have c11b0 : (Op.bytesLess (((rd_T147 l0 (ji8)).f0).toList) (((rd_T147 l0 x7_1).f0).toList)) = true := c11
                   clear c11
                   have H' := Aside0.mk H
                   clear H
                   have p436 : 0 ≤ (x7_1 : Int) := of_decide_eq_true am
                   have q436 : x7_1 < (l0.length : Int) := of_decide_eq_true am
                   obtain ⟨ad436, e436, hx436_0, hx436_1, hx436_2, hx436_3⟩ := at_T147 HR0.out x7_1 p436 q436
                   cases e436
                   replace hx436_0 := cw hx436_0
                   replace hx436_1 := cw hx436_1
                   replace hx436_2 := cw hx436_2
                   replace hx436_3 := cw hx436_3
                   replace p436 := eq_true p436
                   replace q436 := eq_true q436
                   try go_wp2_with (first | ((with_reducible refine gate_dst (N := 4) rfl ?_); refine bx 4 #[.string (⟨#[]⟩ : ByteArray), .int .i64 0, .int .i64 0, .bool false] 147 ?_; intro gb437 hg w12 hbox hb; have BK437 := ak hbox; have GW437 := gs hg bl; have GE437 := gs hg bl; replace HB := ak (below_step bl hb); clear hb hbox hg; obtain ⟨hcz13_0, hcz13_1, hcz13_2, hcz13_3, hfz13_0, hfz13_1, hfz13_2, hfz13_3⟩ := cz4 BK437))
                   have n0_ : Aside0 (((((w12.setCell ⟨gb437, 0, none⟩ (.string ((rd_T147 l0 x7_1).f0))).setCell ⟨gb437, 1, none⟩ (.int .i64 ((rd_T147 l0 x7_1).f1))).setCell ⟨gb437, 2, none⟩ (.int .i64 ((rd_T147 l0 x7_1).f2))).setCell ⟨gb437, 3, none⟩ (.bool ((rd_T147 l0 x7_1).f3))).heap[gb437]? = some (.cells #[.string ((rd_T147 l0 x7_1).f0), .int .i64 ((rd_T147 l0 x7_1).f1), .int .i64 ((rd_T147 l0 x7_1).f2), .bool ((rd_T147 l0 x7_1).f3)] 147 (0, 0))) := ⟨by (with_reducible repeat (first | refine blk_drewN ?_ _ | refine blk_drew ?_ | refine blk_alloc ?_ _)); refine blk_put (cs := #[.string ((rd_T147 l0 x7_1).f0), .int .i64 ((rd_T147 l0 x7_1).f1), .int .i64 ((rd_T147 l0 x7_1).f2), .bool false]) ?_ 3 _ rfl; (with_reducible repeat (first | refine blk_drewN ?_ _ | refine blk_drew ?_ | refine blk_alloc ?_ _)); refine blk_put (cs := #[.string ((rd_T147 l0 x7_1).f0), .int .i64 ((rd_T147 l0 x7_1).f1), .int .i64 0, .bool false]) ?_ 2 _ rfl; (with_reducible repeat (first | refine blk_drewN ?_ _ | refine blk_drew ?_ | refine blk_alloc ?_ _)); refine blk_put (cs := #[.string ((rd_T147 l0 x7_1).f0), .int .i64 0, .int .i64 0, .bool false]) ?_ 1 _ rfl; (with_reducible repeat (first | refine blk_drewN ?_ _ | refine blk_drew ?_ | refine blk_alloc ?_ _)); refine blk_put (cs := #[.string (⟨#[]⟩ : ByteArray), .int .i64 0, .int .i64 0, .bool false]) ?_ 0 _ rfl; (with_reducible repeat (first | refine blk_drewN ?_ _ | refine blk_drew ?_ | refine blk_alloc ?_ _)); exact BK437.out⟩
                   have n1_ : Aside0 (Below w.heap.size w ((((w12.setCell ⟨gb437, 0, none⟩ (.string ((rd_T147 l0 x7_1).f0))).setCell ⟨gb437, 1, none⟩ (.int .i64 ((rd_T147 l0 x7_1).f1))).setCell ⟨gb437, 2, none⟩ (.int .i64 ((rd_T147 l0 x7_1).f2))).setCell ⟨gb437, 3, none⟩ (.bool ((rd_T147 l0 x7_1).f3)))) := ⟨bl1 GE437⟩
                   (try clear BK437)
                   (try clear HB)
                   generalize ((((w12.setCell ⟨gb437, 0, none⟩ (.string ((rd_T147 l0 x7_1).f0))).setCell ⟨gb437, 1, none⟩ (.int .i64 ((rd_T147 l0 x7_1).f1))).setCell ⟨gb437, 2, none⟩ (.int .i64 ((rd_T147 l0 x7_1).f2))).setCell ⟨gb437, 3, none⟩ (.bool ((rd_T147 l0 x7_1).f3))) = w14 at n0_ n1_ ⊢
                   have BK437 := n0_
                   have HB := n1_
                   clear n0_ n1_
                   replace BK437 := ak (blk_drew BK437.out)
                   replace HB := ak (below_drew1 HB.out)
                   have p439 : 0 ≤ ((ji8) : Int) := of_decide_eq_true am
                   have q439 : (ji8) < (l0.length : Int) := of_decide_eq_true am
                   obtain ⟨ad439, e439, hx439_0, hx439_1, hx439_2, hx439_3⟩ := at_T147 HR0.out (ji8) p439 q439
                   have hw439_3 := hx439_3
                   have hw439_2 := hx439_2
                   have hw439_1 := hx439_1
                   have hw439_0 := hx439_0
                   obtain rfl : ad436 = ad439 := (by injection e439)
                   replace hx439_0 := cw hx439_0
                   replace hx439_1 := cw hx439_1
                   replace hx439_2 := cw hx439_2
                   replace hx439_3 := cw hx439_3
                   replace p439 := eq_true p439
                   replace q439 := eq_true q439
                   refine start_ (n := 18) (S := fun w' => w'.cell? ⟨gb437, 0, none⟩ = some (.string ((rd_T147 l0 x7_1).f0)) ∧ w'.cell? ⟨gb437, 1, none⟩ = some (.int .i64 ((rd_T147 l0 x7_1).f1)) ∧ w'.cell? ⟨gb437, 2, none⟩ = some (.int .i64 ((rd_T147 l0 x7_1).f2)) ∧ w'.cell? ⟨gb437, 3, none⟩ = some (.bool ((rd_T147 l0 x7_1).f3)) ∧ w'.cell? (ad436.add (((ji8)).toNat * 4)) = some (.string ((rd_T147 l0 (ji8)).f0)) ∧ w'.cell? ⟨(ad436.add (((ji8)).toNat * 4)).block, (ad436.add (((ji8)).toNat * 4)).off + 1, none⟩ = some (.int .i64 ((rd_T147 l0 (ji8)).f1)) ∧ w'.cell? ⟨(ad436.add (((ji8)).toNat * 4)).block, (ad436.add (((ji8)).toNat * 4)).off + 2, none⟩ = some (.int .i64 ((rd_T147 l0 (ji8)).f2)) ∧ w'.cell? ⟨(ad436.add (((ji8)).toNat * 4)).block, (ad436.add (((ji8)).toNat * 4)).off + 3, none⟩ = some (.bool ((rd_T147 l0 (ji8)).f3))) (ds := []) (bitsA 18 0) (by kernel_rfl) rfl rfl ⟨bc BK437 0, bc BK437 1, bc BK437 2, bc BK437 3, (cw hw439_0), (cw hw439_1), (cw hw439_2), (cw hw439_3)⟩ (fun hHeld => ?_); refine with_tabW impl_PodsOk.tab4 impl_PodsOk.bits4 (fun HT_ HW_ => ?_)
                   generalize w14.drew = w15 at BK437 HB hx439_0 hx439_1 hx439_2 hx439_3 hHeld ⊢
                   refine tk 0 (some 12) (bitsA 18 1) hHeld ?_ (hy := Or.inl ⟨by rfl, by rintro w' ⟨s0, s1, s2, s3, s4, s5, s6, s7⟩; go_simp; with_reducible rfl⟩)
                   refine one_ (i := 1) (N := some 13) (bitsA 18 3) rfl rfl (one_of HT_.out (by kernel_rfl)) (by decide) (fun K hK => ?_)
                   refine goes_ Try.func139 (by kernel_rfl) rfl #[.agg #[.string ((rd_T147 l0 x7_1).f0), .int .i64 ((rd_T147 l0 x7_1).f1), .int .i64 ((rd_T147 l0 x7_1).f2), .bool ((rd_T147 l0 x7_1).f3)]] (by rfl) rfl rfl mt ?_
                   with_reducible refine (impl_PodOk.calls k1 ((rd_T147 l0 x7_1).f0) ((rd_T147 l0 x7_1).f1) ((rd_T147 l0 x7_1).f2) ((rd_T147 l0 x7_1).f3) true _ A5.out).mono ?_
                   rintro e w16 ⟨rfl, hb⟩
                   refine ⟨_, rfl, ?_⟩
                   replace BK437 := bb BK437 hb
                   replace HB := ak (below_step (bl1 GE437) hb)
                   (try clear hb)
                   (try clear hb2)
                   (try clear hk)
                   (try clear hi)
                   refine hK.out _ _ ⟨bc BK437 0, bc BK437 1, bc BK437 2, bc BK437 3, (cw hw439_0), (cw hw439_1), (cw hw439_2), (cw hw439_3)⟩ (fun hHeld => ?_)
                   clear hK K
                   refine nm ?_
                   refine pu 2 (some 14) (bitsA 18 7) ?_
                   refine pu 3 (some 15) (bitsA 18 15) ?_
                   refine pu 4 (some 16) (bitsA 18 31) ?_
                   refine pu 5 (some 17) (bitsA 18 63) ?_
                   refine pu 6 (some 18) (bitsA 18 127) ?_
                   refine pu 7 (some 19) (bitsA 18 255) ?_
                   refine pu 8 (some 20) (bitsA 18 511) ?_
                   refine pu 9 (some 21) (bitsA 18 1023) ?_
                   refine pu 10 (some 22) (bitsA 18 2047) ?_
                   refine pu 11 (some 23) (bitsA 18 4095) ?_
                   refine tk 12 (some 24) (bitsA 18 8191) hHeld ?_ (hy := Or.inl ⟨by rfl, by rintro w' ⟨s0, s1, s2, s3, s4, s5, s6, s7⟩; go_simp; with_reducible rfl⟩)
                   refine pu 13 (some 25) (bitsA 18 16383) ?_
                   refine tk 14 (some 26) (bitsA 18 32767) hHeld ?_ (hy := Or.inl ⟨by rfl, by rintro w' ⟨s0, s1, s2, s3, s4, s5, s6, s7⟩; go_simp; with_reducible rfl⟩)
                   refine pu 15 (some 27) (bitsA 18 65535) ?_
                   refine pu 16 (some 28) (bitsA 18 131071) ?_
                   refine pu 17 (some 29) (bitsA 18 262143) ?_
                   refine done_ (done_of HT_.out (by kernel_rfl)) ?_
                   try go_wp2
                   go_roundg k1
                   case measure => have := HK1.out; omega
                   case rel => exact ⟨(wrap64 (x7_1 + 1)), es, H', ⟨kp⟩, ⟨bl1 GE437⟩⟩
                 · rw [if_neg c11] at H
                   have c11b0 : (Op.bytesLess (((rd_T147 l0 (ji8)).f0).toList) (((rd_T147 l0 x7_1).f0).toList)) = false := by simpa using c11
                   clear c11
                   obtain rfl := Option.some.inj H
                   have p436 : 0 ≤ (x7_1 : Int) := of_decide_eq_true am
                   have q436 : x7_1 < (l0.length : Int) := of_decide_eq_true am
                   obtain ⟨ad436, e436, hx436_0, hx436_1, hx436_2, hx436_3⟩ := at_T147 HR0.out x7_1 p436 q436
                   cases e436
                   replace hx436_0 := cw hx436_0
                   replace hx436_1 := cw hx436_1
                   replace hx436_2 := cw hx436_2
                   replace hx436_3 := cw hx436_3
                   replace p436 := eq_true p436
                   replace q436 := eq_true q436
                   try go_wp2_with (first | ((with_reducible refine gate_dst (N := 4) rfl ?_); refine bx 4 #[.string (⟨#[]⟩ : ByteArray), .int .i64 0, .int .i64 0, .bool false] 147 ?_; intro gb437 hg w17 hbox hb; have BK437 := ak hbox; have GW437 := gs hg bl; have GE437 := gs hg bl; replace HB := ak (below_step bl hb); clear hb hbox hg; obtain ⟨hcz18_0, hcz18_1, hcz18_2, hcz18_3, hfz18_0, hfz18_1, hfz18_2, hfz18_3⟩ := cz4 BK437))
                   have n0_ : Aside0 (((((w17.setCell ⟨gb437, 0, none⟩ (.string ((rd_T147 l0 x7_1).f0))).setCell ⟨gb437, 1, none⟩ (.int .i64 ((rd_T147 l0 x7_1).f1))).setCell ⟨gb437, 2, none⟩ (.int .i64 ((rd_T147 l0 x7_1).f2))).setCell ⟨gb437, 3, none⟩ (.bool ((rd_T147 l0 x7_1).f3))).heap[gb437]? = some (.cells #[.string ((rd_T147 l0 x7_1).f0), .int .i64 ((rd_T147 l0 x7_1).f1), .int .i64 ((rd_T147 l0 x7_1).f2), .bool ((rd_T147 l0 x7_1).f3)] 147 (0, 0))) := ⟨by (with_reducible repeat (first | refine blk_drewN ?_ _ | refine blk_drew ?_ | refine blk_alloc ?_ _)); refine blk_put (cs := #[.string ((rd_T147 l0 x7_1).f0), .int .i64 ((rd_T147 l0 x7_1).f1), .int .i64 ((rd_T147 l0 x7_1).f2), .bool false]) ?_ 3 _ rfl; (with_reducible repeat (first | refine blk_drewN ?_ _ | refine blk_drew ?_ | refine blk_alloc ?_ _)); refine blk_put (cs := #[.string ((rd_T147 l0 x7_1).f0), .int .i64 ((rd_T147 l0 x7_1).f1), .int .i64 0, .bool false]) ?_ 2 _ rfl; (with_reducible repeat (first | refine blk_drewN ?_ _ | refine blk_drew ?_ | refine blk_alloc ?_ _)); refine blk_put (cs := #[.string ((rd_T147 l0 x7_1).f0), .int .i64 0, .int .i64 0, .bool false]) ?_ 1 _ rfl; (with_reducible repeat (first | refine blk_drewN ?_ _ | refine blk_drew ?_ | refine blk_alloc ?_ _)); refine blk_put (cs := #[.string (⟨#[]⟩ : ByteArray), .int .i64 0, .int .i64 0, .bool false]) ?_ 0 _ rfl; (with_reducible repeat (first | refine blk_drewN ?_ _ | refine blk_drew ?_ | refine blk_alloc ?_ _)); exact BK437.out⟩
                   have n1_ : Aside0 (Below w.heap.size w ((((w17.setCell ⟨gb437, 0, none⟩ (.string ((rd_T147 l0 x7_1).f0))).setCell ⟨gb437, 1, none⟩ (.int .i64 ((rd_T147 l0 x7_1).f1))).setCell ⟨gb437, 2, none⟩ (.int .i64 ((rd_T147 l0 x7_1).f2))).setCell ⟨gb437, 3, none⟩ (.bool ((rd_T147 l0 x7_1).f3)))) := ⟨bl1 GE437⟩
                   (try clear BK437)
                   (try clear HB)
                   generalize ((((w17.setCell ⟨gb437, 0, none⟩ (.string ((rd_T147 l0 x7_1).f0))).setCell ⟨gb437, 1, none⟩ (.int .i64 ((rd_T147 l0 x7_1).f1))).setCell ⟨gb437, 2, none⟩ (.int .i64 ((rd_T147 l0 x7_1).f2))).setCell ⟨gb437, 3, none⟩ (.bool ((rd_T147 l0 x7_1).f3))) = w19 at n0_ n1_ ⊢
                   have BK437 := n0_
                   have HB := n1_
                   clear n0_ n1_
                   replace BK437 := ak (blk_drew BK437.out)
                   replace HB := ak (below_drew1 HB.out)
                   have p439 : 0 ≤ ((ji8) : Int) := of_decide_eq_true am
                   have q439 : (ji8) < (l0.length : Int) := of_decide_eq_true am
                   obtain ⟨ad439, e439, hx439_0, hx439_1, hx439_2, hx439_3⟩ := at_T147 HR0.out (ji8) p439 q439
                   have hw439_3 := hx439_3
                   have hw439_2 := hx439_2
                   have hw439_1 := hx439_1
                   have hw439_0 := hx439_0
                   obtain rfl : ad436 = ad439 := (by injection e439)
                   replace hx439_0 := cw hx439_0
                   replace hx439_1 := cw hx439_1
                   replace hx439_2 := cw hx439_2
                   replace hx439_3 := cw hx439_3
                   replace p439 := eq_true p439
                   replace q439 := eq_true q439
                   refine start_ (n := 18) (S := fun w' => w'.cell? ⟨gb437, 0, none⟩ = some (.string ((rd_T147 l0 x7_1).f0)) ∧ w'.cell? ⟨gb437, 1, none⟩ = some (.int .i64 ((rd_T147 l0 x7_1).f1)) ∧ w'.cell? ⟨gb437, 2, none⟩ = some (.int .i64 ((rd_T147 l0 x7_1).f2)) ∧ w'.cell? ⟨gb437, 3, none⟩ = some (.bool ((rd_T147 l0 x7_1).f3)) ∧ w'.cell? (ad436.add (((ji8)).toNat * 4)) = some (.string ((rd_T147 l0 (ji8)).f0)) ∧ w'.cell? ⟨(ad436.add (((ji8)).toNat * 4)).block, (ad436.add (((ji8)).toNat * 4)).off + 1, none⟩ = some (.int .i64 ((rd_T147 l0 (ji8)).f1)) ∧ w'.cell? ⟨(ad436.add (((ji8)).toNat * 4)).block, (ad436.add (((ji8)).toNat * 4)).off + 2, none⟩ = some (.int .i64 ((rd_T147 l0 (ji8)).f2)) ∧ w'.cell? ⟨(ad436.add (((ji8)).toNat * 4)).block, (ad436.add (((ji8)).toNat * 4)).off + 3, none⟩ = some (.bool ((rd_T147 l0 (ji8)).f3))) (ds := []) (bitsA 18 0) (by kernel_rfl) rfl rfl ⟨bc BK437 0, bc BK437 1, bc BK437 2, bc BK437 3, (cw hw439_0), (cw hw439_1), (cw hw439_2), (cw hw439_3)⟩ (fun hHeld => ?_); refine with_tabW impl_PodsOk.tab4 impl_PodsOk.bits4 (fun HT_ HW_ => ?_)
                   generalize w19.drew = w20 at BK437 HB hx439_0 hx439_1 hx439_2 hx439_3 hHeld ⊢
                   refine tk 0 (some 12) (bitsA 18 1) hHeld ?_ (hy := Or.inl ⟨by rfl, by rintro w' ⟨s0, s1, s2, s3, s4, s5, s6, s7⟩; go_simp; with_reducible rfl⟩)
                   refine one_ (i := 1) (N := some 13) (bitsA 18 3) rfl rfl (one_of HT_.out (by kernel_rfl)) (by decide) (fun K hK => ?_)
                   refine goes_ Try.func139 (by kernel_rfl) rfl #[.agg #[.string ((rd_T147 l0 x7_1).f0), .int .i64 ((rd_T147 l0 x7_1).f1), .int .i64 ((rd_T147 l0 x7_1).f2), .bool ((rd_T147 l0 x7_1).f3)]] (by rfl) rfl rfl mt ?_
                   with_reducible refine (impl_PodOk.calls k1 ((rd_T147 l0 x7_1).f0) ((rd_T147 l0 x7_1).f1) ((rd_T147 l0 x7_1).f2) ((rd_T147 l0 x7_1).f3) true _ A5.out).mono ?_
                   rintro e w21 ⟨rfl, hb⟩
                   refine ⟨_, rfl, ?_⟩
                   replace BK437 := bb BK437 hb
                   replace HB := ak (below_step (bl1 GE437) hb)
                   (try clear hb)
                   (try clear hb2)
                   (try clear hk)
                   (try clear hi)
                   refine hK.out _ _ ⟨bc BK437 0, bc BK437 1, bc BK437 2, bc BK437 3, (cw hw439_0), (cw hw439_1), (cw hw439_2), (cw hw439_3)⟩ (fun hHeld => ?_)
                   clear hK K
                   refine nm ?_
                   refine pu 2 (some 14) (bitsA 18 7) ?_
                   refine pu 3 (some 15) (bitsA 18 15) ?_
                   refine pu 4 (some 16) (bitsA 18 31) ?_
                   refine pu 5 (some 17) (bitsA 18 63) ?_
                   refine pu 6 (some 18) (bitsA 18 127) ?_
                   refine pu 7 (some 19) (bitsA 18 255) ?_
                   refine pu 8 (some 20) (bitsA 18 511) ?_
                   refine pu 9 (some 21) (bitsA 18 1023) ?_
                   refine pu 10 (some 22) (bitsA 18 2047) ?_
                   refine pu 11 (some 23) (bitsA 18 4095) ?_
                   refine tk 12 (some 24) (bitsA 18 8191) hHeld ?_ (hy := Or.inl ⟨by rfl, by rintro w' ⟨s0, s1, s2, s3, s4, s5, s6, s7⟩; go_simp; with_reducible rfl⟩)
                   refine pu 13 (some 25) (bitsA 18 16383) ?_
                   refine tk 14 (some 26) (bitsA 18 32767) hHeld ?_ (hy := Or.inl ⟨by rfl, by rintro w' ⟨s0, s1, s2, s3, s4, s5, s6, s7⟩; go_simp; with_reducible rfl⟩)
                   refine pu 15 (some 27) (bitsA 18 65535) ?_
                   refine pu 16 (some 28) (bitsA 18 131071) ?_
                   refine pu 17 (some 29) (bitsA 18 262143) ?_
                   refine done_ (done_of HT_.out (by kernel_rfl)) ?_
                   try go_wp2
                   go_ret
                   exact ⟨by first | rfl | (simp [errW_none, errW_some] <;> rfl) | (simp only [← hji8]; first | rfl | (simp [errW_none, errW_some] <;> rfl)) | (simp [*, errW_none, errW_some] <;> rfl), bl1 GE437⟩
               · rw [if_neg c10] at H
                 exact absurd H (by simp)
             · rw [if_neg c9] at H
               exact absurd H (by simp)
           · rw [if_neg c7] at H
             have c7b0 : decide (0 < x7_1) = false := decide_eq_false c7
             clear c7
             have H' := Aside0.mk H
             clear H
             have p436 : 0 ≤ (x7_1 : Int) := of_decide_eq_true am
             have q436 : x7_1 < (l0.length : Int) := of_decide_eq_true am
             obtain ⟨ad436, e436, hx436_0, hx436_1, hx436_2, hx436_3⟩ := at_T147 HR0.out x7_1 p436 q436
             cases e436
             replace hx436_0 := cw hx436_0
             replace hx436_1 := cw hx436_1
             replace hx436_2 := cw hx436_2
             replace hx436_3 := cw hx436_3
             replace p436 := eq_true p436
             replace q436 := eq_true q436
             try go_wp2_with (first | ((with_reducible refine gate_dst (N := 4) rfl ?_); refine bx 4 #[.string (⟨#[]⟩ : ByteArray), .int .i64 0, .int .i64 0, .bool false] 147 ?_; intro gb437 hg w22 hbox hb; have BK437 := ak hbox; have GW437 := gs hg bl; have GE437 := gs hg bl; replace HB := ak (below_step bl hb); clear hb hbox hg; obtain ⟨hcz23_0, hcz23_1, hcz23_2, hcz23_3, hfz23_0, hfz23_1, hfz23_2, hfz23_3⟩ := cz4 BK437))
             have n0_ : Aside0 (((((w22.setCell ⟨gb437, 0, none⟩ (.string ((rd_T147 l0 x7_1).f0))).setCell ⟨gb437, 1, none⟩ (.int .i64 ((rd_T147 l0 x7_1).f1))).setCell ⟨gb437, 2, none⟩ (.int .i64 ((rd_T147 l0 x7_1).f2))).setCell ⟨gb437, 3, none⟩ (.bool ((rd_T147 l0 x7_1).f3))).heap[gb437]? = some (.cells #[.string ((rd_T147 l0 x7_1).f0), .int .i64 ((rd_T147 l0 x7_1).f1), .int .i64 ((rd_T147 l0 x7_1).f2), .bool ((rd_T147 l0 x7_1).f3)] 147 (0, 0))) := ⟨by (with_reducible repeat (first | refine blk_drewN ?_ _ | refine blk_drew ?_ | refine blk_alloc ?_ _)); refine blk_put (cs := #[.string ((rd_T147 l0 x7_1).f0), .int .i64 ((rd_T147 l0 x7_1).f1), .int .i64 ((rd_T147 l0 x7_1).f2), .bool false]) ?_ 3 _ rfl; (with_reducible repeat (first | refine blk_drewN ?_ _ | refine blk_drew ?_ | refine blk_alloc ?_ _)); refine blk_put (cs := #[.string ((rd_T147 l0 x7_1).f0), .int .i64 ((rd_T147 l0 x7_1).f1), .int .i64 0, .bool false]) ?_ 2 _ rfl; (with_reducible repeat (first | refine blk_drewN ?_ _ | refine blk_drew ?_ | refine blk_alloc ?_ _)); refine blk_put (cs := #[.string ((rd_T147 l0 x7_1).f0), .int .i64 0, .int .i64 0, .bool false]) ?_ 1 _ rfl; (with_reducible repeat (first | refine blk_drewN ?_ _ | refine blk_drew ?_ | refine blk_alloc ?_ _)); refine blk_put (cs := #[.string (⟨#[]⟩ : ByteArray), .int .i64 0, .int .i64 0, .bool false]) ?_ 0 _ rfl; (with_reducible repeat (first | refine blk_drewN ?_ _ | refine blk_drew ?_ | refine blk_alloc ?_ _)); exact BK437.out⟩
             have n1_ : Aside0 (Below w.heap.size w ((((w22.setCell ⟨gb437, 0, none⟩ (.string ((rd_T147 l0 x7_1).f0))).setCell ⟨gb437, 1, none⟩ (.int .i64 ((rd_T147 l0 x7_1).f1))).setCell ⟨gb437, 2, none⟩ (.int .i64 ((rd_T147 l0 x7_1).f2))).setCell ⟨gb437, 3, none⟩ (.bool ((rd_T147 l0 x7_1).f3)))) := ⟨bl1 GE437⟩
             (try clear BK437)
             (try clear HB)
             generalize ((((w22.setCell ⟨gb437, 0, none⟩ (.string ((rd_T147 l0 x7_1).f0))).setCell ⟨gb437, 1, none⟩ (.int .i64 ((rd_T147 l0 x7_1).f1))).setCell ⟨gb437, 2, none⟩ (.int .i64 ((rd_T147 l0 x7_1).f2))).setCell ⟨gb437, 3, none⟩ (.bool ((rd_T147 l0 x7_1).f3))) = w24 at n0_ n1_ ⊢
             have BK437 := n0_
             have HB := n1_
             clear n0_ n1_
             replace BK437 := ak (blk_drew BK437.out)
             replace HB := ak (below_drew1 HB.out)
             refine start_ (n := 18) (S := fun w' => w'.cell? ⟨gb437, 0, none⟩ = some (.string ((rd_T147 l0 x7_1).f0)) ∧ w'.cell? ⟨gb437, 1, none⟩ = some (.int .i64 ((rd_T147 l0 x7_1).f1)) ∧ w'.cell? ⟨gb437, 2, none⟩ = some (.int .i64 ((rd_T147 l0 x7_1).f2)) ∧ w'.cell? ⟨gb437, 3, none⟩ = some (.bool ((rd_T147 l0 x7_1).f3))) (ds := []) (bitsA 18 0) (by kernel_rfl) rfl rfl ⟨bc BK437 0, bc BK437 1, bc BK437 2, bc BK437 3⟩ (fun hHeld => ?_); refine with_tabW impl_PodsOk.tab4 impl_PodsOk.bits4 (fun HT_ HW_ => ?_)
             generalize w24.drew = w25 at BK437 HB hHeld ⊢
             refine tk 0 (some 12) (bitsA 18 1) hHeld ?_ (hy := Or.inl ⟨by rfl, by rintro w' ⟨s0, s1, s2, s3⟩; go_simp; with_reducible rfl⟩)
             refine one_ (i := 1) (N := some 13) (bitsA 18 3) rfl rfl (one_of HT_.out (by kernel_rfl)) (by decide) (fun K hK => ?_)
             refine goes_ Try.func139 (by kernel_rfl) rfl #[.agg #[.string ((rd_T147 l0 x7_1).f0), .int .i64 ((rd_T147 l0 x7_1).f1), .int .i64 ((rd_T147 l0 x7_1).f2), .bool ((rd_T147 l0 x7_1).f3)]] (by rfl) rfl rfl mt ?_
             with_reducible refine (impl_PodOk.calls k1 ((rd_T147 l0 x7_1).f0) ((rd_T147 l0 x7_1).f1) ((rd_T147 l0 x7_1).f2) ((rd_T147 l0 x7_1).f3) true _ A5.out).mono ?_
             rintro e w26 ⟨rfl, hb⟩
             refine ⟨_, rfl, ?_⟩
             replace BK437 := bb BK437 hb
             replace HB := ak (below_step (bl1 GE437) hb)
             (try clear hb)
             (try clear hb2)
             (try clear hk)
             (try clear hi)
             refine hK.out _ _ ⟨bc BK437 0, bc BK437 1, bc BK437 2, bc BK437 3⟩ (fun hHeld => ?_)
             clear hK K
             refine nm ?_
             refine pu 2 (some 14) (bitsA 18 7) ?_
             refine pu 3 (some 15) (bitsA 18 15) ?_
             refine pu 4 (some 16) (bitsA 18 31) ?_
             refine pu 5 (some 17) (bitsA 18 63) ?_
             refine pu 6 (some 18) (bitsA 18 127) ?_
             refine pure_ (i := 7) (N := some 19) (v := undef) (a' := ?_) (bitsA 18 255) rfl rfl (any_of HT_.out (by kernel_rfl)) (fun _ _ _ h => h) (Or.inr ⟨by rfl, rfl⟩) ?_ ?_; rotate_left; (· (simp only [Act.put, List.setIfInBounds_toArray, List.set_cons_zero, List.set_cons_succ, i64_w, i32_w]; rfl))
             refine pure_ (i := 8) (N := some 20) (v := undef) (a' := ?_) (bitsA 18 511) rfl rfl (any_of HT_.out (by kernel_rfl)) (fun _ _ _ h => h) (Or.inr ⟨by rfl, rfl⟩) ?_ ?_; rotate_left; (· (simp only [Act.put, List.setIfInBounds_toArray, List.set_cons_zero, List.set_cons_succ, i64_w, i32_w]; rfl))
             refine pure_ (i := 9) (N := some 21) (v := undef) (a' := ?_) (bitsA 18 1023) rfl rfl (any_of HT_.out (by kernel_rfl)) (fun _ _ _ h => h) (Or.inr ⟨by rfl, rfl⟩) ?_ ?_; rotate_left; (· (simp only [Act.put, List.setIfInBounds_toArray, List.set_cons_zero, List.set_cons_succ, i64_w, i32_w]; rfl))
             refine pure_ (i := 10) (N := some 22) (v := undef) (a' := ?_) (bitsA 18 2047) rfl rfl (any_of HT_.out (by kernel_rfl)) (fun _ _ _ h => h) (Or.inr ⟨by rfl, rfl⟩) ?_ ?_; rotate_left; (· (simp only [Act.put, List.setIfInBounds_toArray, List.set_cons_zero, List.set_cons_succ, i64_w, i32_w]; rfl))
             refine pure_ (i := 11) (N := some 23) (v := undef) (a' := ?_) (bitsA 18 4095) rfl rfl (any_of HT_.out (by kernel_rfl)) (fun _ _ _ h => h) (Or.inr ⟨by rfl, rfl⟩) ?_ ?_; rotate_left; (· (simp only [Act.put, List.setIfInBounds_toArray, List.set_cons_zero, List.set_cons_succ, i64_w, i32_w]; rfl))
             refine pure_ (i := 12) (N := some 24) (v := undef) (a' := ?_) (bitsA 18 8191) rfl rfl (any_of HT_.out (by kernel_rfl)) (fun _ _ _ h => h) (Or.inr ⟨by rfl, rfl⟩) ?_ ?_; rotate_left; (· (simp only [Act.put, List.setIfInBounds_toArray, List.set_cons_zero, List.set_cons_succ, i64_w, i32_w]; rfl))
             refine pure_ (i := 13) (N := some 25) (v := undef) (a' := ?_) (bitsA 18 16383) rfl rfl (any_of HT_.out (by kernel_rfl)) (fun _ _ _ h => h) (Or.inr ⟨by rfl, rfl⟩) ?_ ?_; rotate_left; (· (simp only [Act.put, List.setIfInBounds_toArray, List.set_cons_zero, List.set_cons_succ, i64_w, i32_w]; rfl))
             refine pure_ (i := 14) (N := some 26) (v := undef) (a' := ?_) (bitsA 18 32767) rfl rfl (any_of HT_.out (by kernel_rfl)) (fun _ _ _ h => h) (Or.inr ⟨by rfl, rfl⟩) ?_ ?_; rotate_left; (· (simp only [Act.put, List.setIfInBounds_toArray, List.set_cons_zero, List.set_cons_succ, i64_w, i32_w]; rfl))
             refine pure_ (i := 15) (N := some 27) (v := undef) (a' := ?_) (bitsA 18 65535) rfl rfl (any_of HT_.out (by kernel_rfl)) (fun _ _ _ h => h) (Or.inr ⟨by rfl, rfl⟩) ?_ ?_; rotate_left; (· (simp only [Act.put, List.setIfInBounds_toArray, List.set_cons_zero, List.set_cons_succ, i64_w, i32_w]; rfl))
             refine pu 16 (some 28) (bitsA 18 131071) ?_
             refine pu 17 (some 29) (bitsA 18 262143) ?_
             refine done_ (done_of HT_.out (by kernel_rfl)) ?_
             try go_wp2
             go_roundg k1
             case measure => have := HK1.out; omega
             case rel => exact ⟨(wrap64 (x7_1 + 1)), es, H', ⟨kp⟩, ⟨bl1 GE437⟩⟩
         · replace c6 := Bool.eq_false_iff.mpr c6
           subst c6
           replace H := iF H
           obtain rfl := Option.some.inj H
           have p436 : 0 ≤ (x7_1 : Int) := of_decide_eq_true am
           have q436 : x7_1 < (l0.length : Int) := of_decide_eq_true am
           obtain ⟨ad436, e436, hx436_0, hx436_1, hx436_2, hx436_3⟩ := at_T147 HR0.out x7_1 p436 q436
           cases e436
           replace hx436_0 := cw hx436_0
           replace hx436_1 := cw hx436_1
           replace hx436_2 := cw hx436_2
           replace hx436_3 := cw hx436_3
           replace p436 := eq_true p436
           replace q436 := eq_true q436
           try go_wp2_with (first | ((with_reducible refine gate_dst (N := 4) rfl ?_); refine bx 4 #[.string (⟨#[]⟩ : ByteArray), .int .i64 0, .int .i64 0, .bool false] 147 ?_; intro gb437 hg w27 hbox hb; have BK437 := ak hbox; have GW437 := gs hg bl; have GE437 := gs hg bl; replace HB := ak (below_step bl hb); clear hb hbox hg; obtain ⟨hcz28_0, hcz28_1, hcz28_2, hcz28_3, hfz28_0, hfz28_1, hfz28_2, hfz28_3⟩ := cz4 BK437))
           have n0_ : Aside0 (((((w27.setCell ⟨gb437, 0, none⟩ (.string ((rd_T147 l0 x7_1).f0))).setCell ⟨gb437, 1, none⟩ (.int .i64 ((rd_T147 l0 x7_1).f1))).setCell ⟨gb437, 2, none⟩ (.int .i64 ((rd_T147 l0 x7_1).f2))).setCell ⟨gb437, 3, none⟩ (.bool ((rd_T147 l0 x7_1).f3))).heap[gb437]? = some (.cells #[.string ((rd_T147 l0 x7_1).f0), .int .i64 ((rd_T147 l0 x7_1).f1), .int .i64 ((rd_T147 l0 x7_1).f2), .bool ((rd_T147 l0 x7_1).f3)] 147 (0, 0))) := ⟨by (with_reducible repeat (first | refine blk_drewN ?_ _ | refine blk_drew ?_ | refine blk_alloc ?_ _)); refine blk_put (cs := #[.string ((rd_T147 l0 x7_1).f0), .int .i64 ((rd_T147 l0 x7_1).f1), .int .i64 ((rd_T147 l0 x7_1).f2), .bool false]) ?_ 3 _ rfl; (with_reducible repeat (first | refine blk_drewN ?_ _ | refine blk_drew ?_ | refine blk_alloc ?_ _)); refine blk_put (cs := #[.string ((rd_T147 l0 x7_1).f0), .int .i64 ((rd_T147 l0 x7_1).f1), .int .i64 0, .bool false]) ?_ 2 _ rfl; (with_reducible repeat (first | refine blk_drewN ?_ _ | refine blk_drew ?_ | refine blk_alloc ?_ _)); refine blk_put (cs := #[.string ((rd_T147 l0 x7_1).f0), .int .i64 0, .int .i64 0, .bool false]) ?_ 1 _ rfl; (with_reducible repeat (first | refine blk_drewN ?_ _ | refine blk_drew ?_ | refine blk_alloc ?_ _)); refine blk_put (cs := #[.string (⟨#[]⟩ : ByteArray), .int .i64 0, .int .i64 0, .bool false]) ?_ 0 _ rfl; (with_reducible repeat (first | refine blk_drewN ?_ _ | refine blk_drew ?_ | refine blk_alloc ?_ _)); exact BK437.out⟩
           have n1_ : Aside0 (Below w.heap.size w ((((w27.setCell ⟨gb437, 0, none⟩ (.string ((rd_T147 l0 x7_1).f0))).setCell ⟨gb437, 1, none⟩ (.int .i64 ((rd_T147 l0 x7_1).f1))).setCell ⟨gb437, 2, none⟩ (.int .i64 ((rd_T147 l0 x7_1).f2))).setCell ⟨gb437, 3, none⟩ (.bool ((rd_T147 l0 x7_1).f3)))) := ⟨bl1 GE437⟩
           (try clear BK437)
           (try clear HB)
           generalize ((((w27.setCell ⟨gb437, 0, none⟩ (.string ((rd_T147 l0 x7_1).f0))).setCell ⟨gb437, 1, none⟩ (.int .i64 ((rd_T147 l0 x7_1).f1))).setCell ⟨gb437, 2, none⟩ (.int .i64 ((rd_T147 l0 x7_1).f2))).setCell ⟨gb437, 3, none⟩ (.bool ((rd_T147 l0 x7_1).f3))) = w29 at n0_ n1_ ⊢
           have BK437 := n0_
           have HB := n1_
           clear n0_ n1_
           replace BK437 := ak (blk_drew BK437.out)
           replace HB := ak (below_drew1 HB.out)
           refine start_ (n := 18) (S := fun w' => w'.cell? ⟨gb437, 0, none⟩ = some (.string ((rd_T147 l0 x7_1).f0)) ∧ w'.cell? ⟨gb437, 1, none⟩ = some (.int .i64 ((rd_T147 l0 x7_1).f1)) ∧ w'.cell? ⟨gb437, 2, none⟩ = some (.int .i64 ((rd_T147 l0 x7_1).f2)) ∧ w'.cell? ⟨gb437, 3, none⟩ = some (.bool ((rd_T147 l0 x7_1).f3))) (ds := []) (bitsA 18 0) (by kernel_rfl) rfl rfl ⟨bc BK437 0, bc BK437 1, bc BK437 2, bc BK437 3⟩ (fun hHeld => ?_); refine with_tabW impl_PodsOk.tab4 impl_PodsOk.bits4 (fun HT_ HW_ => ?_)
           generalize w29.drew = w30 at BK437 HB hHeld ⊢
           refine tk 0 (some 12) (bitsA 18 1) hHeld ?_ (hy := Or.inl ⟨by rfl, by rintro w' ⟨s0, s1, s2, s3⟩; go_simp; with_reducible rfl⟩)
           refine one_ (i := 1) (N := some 13) (bitsA 18 3) rfl rfl (one_of HT_.out (by kernel_rfl)) (by decide) (fun K hK => ?_)
           refine goes_ Try.func139 (by kernel_rfl) rfl #[.agg #[.string ((rd_T147 l0 x7_1).f0), .int .i64 ((rd_T147 l0 x7_1).f1), .int .i64 ((rd_T147 l0 x7_1).f2), .bool ((rd_T147 l0 x7_1).f3)]] (by rfl) rfl rfl mt ?_
           with_reducible refine (impl_PodOk.calls k1 ((rd_T147 l0 x7_1).f0) ((rd_T147 l0 x7_1).f1) ((rd_T147 l0 x7_1).f2) ((rd_T147 l0 x7_1).f3) false _ A5.out).mono ?_
           rintro e w31 ⟨rfl, hb⟩
           refine ⟨_, rfl, ?_⟩
           replace BK437 := bb BK437 hb
           replace HB := ak (below_step (bl1 GE437) hb)
           (try clear hb)
           (try clear hb2)
           (try clear hk)
           (try clear hi)
           refine hK.out _ _ ⟨bc BK437 0, bc BK437 1, bc BK437 2, bc BK437 3⟩ (fun hHeld => ?_)
           clear hK K
           refine nm ?_
           refine pu 2 (some 14) (bitsA 18 7) ?_
           refine pu 3 (some 15) (bitsA 18 15) ?_
           refine pure_ (i := 4) (N := some 16) (v := undef) (a' := ?_) (bitsA 18 31) rfl rfl (any_of HT_.out (by kernel_rfl)) (fun _ _ _ h => h) (Or.inr ⟨by rfl, rfl⟩) ?_ ?_; rotate_left; (· (simp only [Act.put, List.setIfInBounds_toArray, List.set_cons_zero, List.set_cons_succ, i64_w, i32_w]; rfl))
           refine pure_ (i := 5) (N := some 17) (v := undef) (a' := ?_) (bitsA 18 63) rfl rfl (any_of HT_.out (by kernel_rfl)) (fun _ _ _ h => h) (Or.inr ⟨by rfl, rfl⟩) ?_ ?_; rotate_left; (· (simp only [Act.put, List.setIfInBounds_toArray, List.set_cons_zero, List.set_cons_succ, i64_w, i32_w]; rfl))
           refine pure_ (i := 6) (N := some 18) (v := undef) (a' := ?_) (bitsA 18 127) rfl rfl (any_of HT_.out (by kernel_rfl)) (fun _ _ _ h => h) (Or.inr ⟨by rfl, rfl⟩) ?_ ?_; rotate_left; (· (simp only [Act.put, List.setIfInBounds_toArray, List.set_cons_zero, List.set_cons_succ, i64_w, i32_w]; rfl))
           refine pure_ (i := 7) (N := some 19) (v := undef) (a' := ?_) (bitsA 18 255) rfl rfl (any_of HT_.out (by kernel_rfl)) (fun _ _ _ h => h) (Or.inr ⟨by rfl, rfl⟩) ?_ ?_; rotate_left; (· (simp only [Act.put, List.setIfInBounds_toArray, List.set_cons_zero, List.set_cons_succ, i64_w, i32_w]; rfl))
           refine pure_ (i := 8) (N := some 20) (v := undef) (a' := ?_) (bitsA 18 511) rfl rfl (any_of HT_.out (by kernel_rfl)) (fun _ _ _ h => h) (Or.inr ⟨by rfl, rfl⟩) ?_ ?_; rotate_left; (· (simp only [Act.put, List.setIfInBounds_toArray, List.set_cons_zero, List.set_cons_succ, i64_w, i32_w]; rfl))
           refine pure_ (i := 9) (N := some 21) (v := undef) (a' := ?_) (bitsA 18 1023) rfl rfl (any_of HT_.out (by kernel_rfl)) (fun _ _ _ h => h) (Or.inr ⟨by rfl, rfl⟩) ?_ ?_; rotate_left; (· (simp only [Act.put, List.setIfInBounds_toArray, List.set_cons_zero, List.set_cons_succ, i64_w, i32_w]; rfl))
           refine pure_ (i := 10) (N := some 22) (v := undef) (a' := ?_) (bitsA 18 2047) rfl rfl (any_of HT_.out (by kernel_rfl)) (fun _ _ _ h => h) (Or.inr ⟨by rfl, rfl⟩) ?_ ?_; rotate_left; (· (simp only [Act.put, List.setIfInBounds_toArray, List.set_cons_zero, List.set_cons_succ, i64_w, i32_w]; rfl))
           refine pure_ (i := 11) (N := some 23) (v := undef) (a' := ?_) (bitsA 18 4095) rfl rfl (any_of HT_.out (by kernel_rfl)) (fun _ _ _ h => h) (Or.inr ⟨by rfl, rfl⟩) ?_ ?_; rotate_left; (· (simp only [Act.put, List.setIfInBounds_toArray, List.set_cons_zero, List.set_cons_succ, i64_w, i32_w]; rfl))
           refine pure_ (i := 12) (N := some 24) (v := undef) (a' := ?_) (bitsA 18 8191) rfl rfl (any_of HT_.out (by kernel_rfl)) (fun _ _ _ h => h) (Or.inr ⟨by rfl, rfl⟩) ?_ ?_; rotate_left; (· (simp only [Act.put, List.setIfInBounds_toArray, List.set_cons_zero, List.set_cons_succ, i64_w, i32_w]; rfl))
           refine pure_ (i := 13) (N := some 25) (v := undef) (a' := ?_) (bitsA 18 16383) rfl rfl (any_of HT_.out (by kernel_rfl)) (fun _ _ _ h => h) (Or.inr ⟨by rfl, rfl⟩) ?_ ?_; rotate_left; (· (simp only [Act.put, List.setIfInBounds_toArray, List.set_cons_zero, List.set_cons_succ, i64_w, i32_w]; rfl))
           refine pure_ (i := 14) (N := some 26) (v := undef) (a' := ?_) (bitsA 18 32767) rfl rfl (any_of HT_.out (by kernel_rfl)) (fun _ _ _ h => h) (Or.inr ⟨by rfl, rfl⟩) ?_ ?_; rotate_left; (· (simp only [Act.put, List.setIfInBounds_toArray, List.set_cons_zero, List.set_cons_succ, i64_w, i32_w]; rfl))
           refine pure_ (i := 15) (N := some 27) (v := undef) (a' := ?_) (bitsA 18 65535) rfl rfl (any_of HT_.out (by kernel_rfl)) (fun _ _ _ h => h) (Or.inr ⟨by rfl, rfl⟩) ?_ ?_; rotate_left; (· (simp only [Act.put, List.setIfInBounds_toArray, List.set_cons_zero, List.set_cons_succ, i64_w, i32_w]; rfl))
           refine pure_ (i := 16) (N := some 28) (v := undef) (a' := ?_) (bitsA 18 131071) rfl rfl (any_of HT_.out (by kernel_rfl)) (fun _ _ _ h => h) (Or.inr ⟨by rfl, rfl⟩) ?_ ?_; rotate_left; (· (simp only [Act.put, List.setIfInBounds_toArray, List.set_cons_zero, List.set_cons_succ, i64_w, i32_w]; rfl))
           refine pu 17 (some 29) (bitsA 18 262143) ?_
           refine done_ (done_of HT_.out (by kernel_rfl)) ?_
           try go_wp2
           go_ret
           exact ⟨ew, bl1 GE437⟩
       · rw [if_neg c4] at H
         exact absurd H (by simp)
     · rw [if_neg c3] at H
       exact absurd H (by simp)
   · rw [if_neg c2] at H
     have c2b0 : decide (x7_1 < (l0.length : Int)) = false := decide_eq_false c2
     clear c2
     obtain rfl := Option.some.inj H
     go_wp2
     go_ret
     exact ⟨ew, bl⟩

end Go.Proofs.Ytplekidnlofioaa.Q
namespace Go.Proofs.Ytplekidnlofioaa.Q
open Go.RowKit Go.Proofs.YtplekidnlofioaaW.PrintWords Go.Proofs.YtplekidnlofioaaW.PrintLast Go.Proofs.YtplekidnlofioaaW.PrintMore
attribute [local go_sem] max2_int min2_int max_two min_two max_three min_three max_four min_four   -- for this text's walks alone
set_option linter.unusedVariables false
set_option linter.unusedSimpArgs false

/-! ### impl_RulesOk: function 140 -/
def impl_RulesOk.f (a0_0 : Int) (a0_1 : Int) (a0_2 : Int) : Option (Bool) := (impl_in.f a0_0 0 1000).bind fun t441 => (if t441 = true then ((impl_in.f a0_1 0 1000).bind fun t442 => (if t442 = true then ((impl_in.f a0_2 0 1000).bind fun t443 => (some t443)) else (some false))) else (some false))
set_option maxHeartbeats 8000000 in
set_option maxRecDepth 100000 in
theorem impl_RulesOk.calls (a0_0 : Int) (a0_1 : Int) (a0_2 : Int) (r : Bool) (w : World) (h : impl_RulesOk.f a0_0 a0_1 a0_2 = some r) :
 Calls Try.prog 140 #[.agg #[.int .i64 a0_0, .int .i64 a0_1, .int .i64 a0_2]] w fun e w' => e = .returned (.bool r) ∧ Below w.heap.size w w' := by
 have hu61 := Try.underlying61
 have HB := Aside0.mk (Below.refl w.heap.size w)
 have H : ((impl_in.f a0_0 0 1000).bind fun t441 => (if t441 = true then ((impl_in.f a0_1 0 1000).bind fun t442 => (if t442 = true then ((impl_in.f a0_2 0 1000).bind fun t443 => (some t443)) else (some false))) else (some false))) = some r := h
 clear h
 obtain ⟨t441, A20, H⟩ := bo H
 have A2 := Aside0.mk A20
 clear A20
 by_cases c3 : t441 = true
 · subst c3
   replace H := iT H
   obtain ⟨t442, A40, H⟩ := bo H
   have A4 := Aside0.mk A40
   clear A40
   by_cases c5 : t442 = true
   · subst c5
     replace H := iT H
     obtain ⟨t443, A60, H⟩ := bo H
     have A6 := Aside0.mk A60
     clear A60
     obtain rfl := Option.some.inj H
     go_enter Try.func140, Try.ntmps140
     go_wp2_with (first | ((with_reducible refine gate_dst (N := 1) rfl ?_); refine bx 1 #[.int .i64 a0_0, .int .i64 a0_1, .int .i64 a0_2] 61 ?_; intro gb440 hg w7 hbox hb; have BK440 := ak hbox; have GW440 := gs hg bl; have GE440 := gs hg bl; replace HB := ak (below_step bl hb); clear hb hbox hg; obtain ⟨hcz8_0, hcz8_1, hcz8_2, hfz8_0, hfz8_1, hfz8_2⟩ := cz3 BK440) | ((with_reducible refine gate_callee (f := 124) rfl ?_); refine gl (some 5) Try.func124 #[.int .i64 a0_0, .int .i64 0, .int .i64 1000] ?_; (with_reducible refine (impl_in.calls a0_0 0 1000 true _ A2.out).mono ?_); rintro e w' ⟨rfl, ⟨nd, rfl⟩⟩; refine ⟨_, rfl, ?_⟩) | (go_at_call 124; (with_reducible refine (impl_in.calls a0_1 0 1000 true _ A4.out).mono ?_); rintro e w' ⟨rfl, ⟨nd, rfl⟩⟩) | (go_at_call 124; (with_reducible refine (impl_in.calls a0_2 0 1000 t443 _ A6.out).mono ?_); rintro e w' ⟨rfl, ⟨nd, rfl⟩⟩))
     go_ret
     exact ⟨ew, bl1 GE440⟩
   · replace c5 := Bool.eq_false_iff.mpr c5
     subst c5
     replace H := iF H
     obtain rfl := Option.some.inj H
     go_enter Try.func140, Try.ntmps140
     go_wp2_with (first | ((with_reducible refine gate_dst (N := 1) rfl ?_); refine bx 1 #[.int .i64 a0_0, .int .i64 a0_1, .int .i64 a0_2] 61 ?_; intro gb440 hg w9 hbox hb; have BK440 := ak hbox; have GW440 := gs hg bl; have GE440 := gs hg bl; replace HB := ak (below_step bl hb); clear hb hbox hg; obtain ⟨hcz10_0, hcz10_1, hcz10_2, hfz10_0, hfz10_1, hfz10_2⟩ := cz3 BK440) | ((with_reducible refine gate_callee (f := 124) rfl ?_); refine gl (some 5) Try.func124 #[.int .i64 a0_0, .int .i64 0, .int .i64 1000] ?_; (with_reducible refine (impl_in.calls a0_0 0 1000 true _ A2.out).mono ?_); rintro e w' ⟨rfl, ⟨nd, rfl⟩⟩; refine ⟨_, rfl, ?_⟩) | (go_at_call 124; (with_reducible refine (impl_in.calls a0_1 0 1000 false _ A4.out).mono ?_); rintro e w' ⟨rfl, ⟨nd, rfl⟩⟩))
     go_ret
     exact ⟨ew, bl1 GE440⟩
 · replace c3 := Bool.eq_false_iff.mpr c3
   subst c3
   replace H := iF H
   obtain rfl := Option.some.inj H
   go_enter Try.func140, Try.ntmps140
   go_wp2_with (first | ((with_reducible refine gate_dst (N := 1) rfl ?_); refine bx 1 #[.int .i64 a0_0, .int .i64 a0_1, .int .i64 a0_2] 61 ?_; intro gb440 hg w11 hbox hb; have BK440 := ak hbox; have GW440 := gs hg bl; have GE440 := gs hg bl; replace HB := ak (below_step bl hb); clear hb hbox hg; obtain ⟨hcz12_0, hcz12_1, hcz12_2, hfz12_0, hfz12_1, hfz12_2⟩ := cz3 BK440) | ((with_reducible refine gate_callee (f := 124) rfl ?_); refine gl (some 5) Try.func124 #[.int .i64 a0_0, .int .i64 0, .int .i64 1000] ?_; (with_reducible refine (impl_in.calls a0_0 0 1000 false _ A2.out).mono ?_); rintro e w' ⟨rfl, ⟨nd, rfl⟩⟩; refine ⟨_, rfl, ?_⟩))
   go_ret
   exact ⟨ew, bl1 GE440⟩

end Go.Proofs.Ytplekidnlofioaa.Q
namespace Go.Proofs.Ytplekidnlofioaa.Q
open Go.RowKit Go.Proofs.YtplekidnlofioaaW.PrintWords Go.Proofs.YtplekidnlofioaaW.PrintLast Go.Proofs.YtplekidnlofioaaW.PrintMore
attribute [local go_sem] max2_int min2_int max_two min_two max_three min_three max_four min_four   -- for this text's walks alone
set_option linter.unusedVariables false
set_option linter.unusedSimpArgs false

/-! ### impl_ClassOf: function 90 -/
mutual
def impl_ClassOf.j0 : Nat → List (S81) → ByteArray → Int → Bool → ByteArray → Int → Int → Bool → Int → Int → Int → Option (Int)
 | 0, _, _, _, _, _, _, _, _, _, _, _ => none
 | k + 1, x1, x2, x3, x30, x445000, x445001, x445002, x445003, x446000, x446001, x446002 => if x30 = true then (some (-1)) else ((impl_LatestOf.f k x1 x445000 x2).bind fun bt450 => (if x445002 = 0 then (if bt450.2.2 = true then (impl_ClassOf.j1 k x3 (decide ((wrap64 (bt450.1 + x446001)) < x3)) x445000 x445001 x445002 x445003 x446000 x446001 x446002) else (impl_ClassOf.j1 k x3 true x445000 x445001 x445002 x445003 x446000 x446001 x446002)) else (some 3)))
def impl_ClassOf.j1 : Nat → Int → Bool → ByteArray → Int → Int → Bool → Int → Int → Int → Option (Int)
 | 0, _, _, _, _, _, _, _, _, _ => none
 | k + 1, x3, x43, x445000, x445001, x445002, x445003, x446000, x446001, x446002 => if x43 = true then (some 2) else (if x445003 = true then (if (wrap64 (x445001 + x446000)) > x3 then (some 1) else (some 0)) else (some 1))
end
def impl_ClassOf.f (k : Nat) (a0_0 : ByteArray) (a0_1 : Int) (a0_2 : Int) (a0_3 : Bool) (l1 : List (S81)) (a2 : ByteArray) (a3 : Int) (a4_0 : Int) (a4_1 : Int) (a4_2 : Int) : Option (Int) := (impl_PodOk.f k a0_0 a0_1 a0_2 a0_3).bind fun t446 => (if t446 = true then ((impl_RulesOk.f a4_0 a4_1 a4_2).bind fun t447 => (if t447 = true then ((impl_isTick.f a3).bind fun t448 => (if t448 = true then ((impl_StoreOk.f k l1).bind fun t449 => (impl_ClassOf.j0 k l1 a2 a3 (!t449) a0_0 a0_1 a0_2 a0_3 a4_0 a4_1 a4_2)) else (impl_ClassOf.j0 k l1 a2 a3 true a0_0 a0_1 a0_2 a0_3 a4_0 a4_1 a4_2))) else (impl_ClassOf.j0 k l1 a2 a3 true a0_0 a0_1 a0_2 a0_3 a4_0 a4_1 a4_2))) else (impl_ClassOf.j0 k l1 a2 a3 true a0_0 a0_1 a0_2 a0_3 a4_0 a4_1 a4_2))
theorem impl_ClassOf.mono_l : ∀ k, (∀ y0 y1 y2 y3 y4 y5 y6 y7 y8 y9 y10, LeO (impl_ClassOf.j0 k y0 y1 y2 y3 y4 y5 y6 y7 y8 y9 y10) (impl_ClassOf.j0 (k + 1) y0 y1 y2 y3 y4 y5 y6 y7 y8 y9 y10)) ∧ (∀ y0 y1 y2 y3 y4 y5 y6 y7 y8, LeO (impl_ClassOf.j1 k y0 y1 y2 y3 y4 y5 y6 y7 y8) (impl_ClassOf.j1 (k + 1) y0 y1 y2 y3 y4 y5 y6 y7 y8))
 | 0 => ⟨fun _ _ _ _ _ _ _ _ _ _ _ r h => by simp [impl_ClassOf.j0] at h, fun _ _ _ _ _ _ _ _ _ r h => by simp [impl_ClassOf.j1] at h⟩
 | k + 1 => by
  obtain ⟨ih0, ih1⟩ := impl_ClassOf.mono_l k
  refine ⟨?_, ?_⟩
  · intro y0 y1 y2 y3 y4 y5 y6 y7 y8 y9 y10
    unfold impl_ClassOf.j0
    repeat' first
    | (with_reducible exact ih0 _ _ _ _ _ _ _ _ _ _ _)
    | (with_reducible exact ih1 _ _ _ _ _ _ _ _ _)
    | (with_reducible exact impl_LatestOf.mono _ _ _ _)
    | (with_reducible exact impl_PodOk.mono _ _ _ _ _)
    | (with_reducible exact impl_StoreOk.mono _ _)
    | (with_reducible exact LeO.refl _)
    | (with_reducible exact LeO.none _)
    | (with_reducible refine LeO.ite ?_ ?_)
    | (with_reducible refine LeO.bind ?_ (fun _ => ?_))
    | exact ih0 _ _ _ _ _ _ _ _ _ _ _
    | exact ih1 _ _ _ _ _ _ _ _ _
    | exact impl_LatestOf.mono _ _ _ _
    | exact impl_PodOk.mono _ _ _ _ _
    | exact impl_StoreOk.mono _ _
    | exact LeO.none _
    | refine LeO.ite ?_ ?_
    | refine LeO.bind ?_ (fun _ => ?_)
  · intro y0 y1 y2 y3 y4 y5 y6 y7 y8
    unfold impl_ClassOf.j1
    repeat' first
    | (with_reducible exact ih0 _ _ _ _ _ _ _ _ _ _ _)
    | (with_reducible exact ih1 _ _ _ _ _ _ _ _ _)
    | (with_reducible exact impl_LatestOf.mono _ _ _ _)
    | (with_reducible exact impl_PodOk.mono _ _ _ _ _)
    | (with_reducible exact impl_StoreOk.mono _ _)
    | (with_reducible exact LeO.refl _)
    | (with_reducible exact LeO.none _)
    | (with_reducible refine LeO.ite ?_ ?_)
    | (with_reducible refine LeO.bind ?_ (fun _ => ?_))
    | exact ih0 _ _ _ _ _ _ _ _ _ _ _
    | exact ih1 _ _ _ _ _ _ _ _ _
    | exact impl_LatestOf.mono _ _ _ _
    | exact impl_PodOk.mono _ _ _ _ _
    | exact impl_StoreOk.mono _ _
    | exact LeO.none _
    | refine LeO.ite ?_ ?_
    | refine LeO.bind ?_ (fun _ => ?_)
theorem impl_ClassOf.mono : ∀ a0 a1 a2 a3 a4 a5 a6 a7 a8 a9 k, LeO (impl_ClassOf.f k a0 a1 a2 a3 a4 a5 a6 a7 a8 a9) (impl_ClassOf.f (k + 1) a0 a1 a2 a3 a4 a5 a6 a7 a8 a9) := by
 intro a0 a1 a2 a3 a4 a5 a6 a7 a8 a9 k
 obtain ⟨ih0, ih1⟩ := impl_ClassOf.mono_l k
 unfold impl_ClassOf.f
 repeat' first
  | (with_reducible exact ih0 _ _ _ _ _ _ _ _ _ _ _)
  | (with_reducible exact ih1 _ _ _ _ _ _ _ _ _)
  | (with_reducible exact impl_LatestOf.mono _ _ _ _)
  | (with_reducible exact impl_PodOk.mono _ _ _ _ _)
  | (with_reducible exact impl_StoreOk.mono _ _)
  | (with_reducible exact LeO.refl _)
  | (with_reducible exact LeO.none _)
  | (with_reducible refine LeO.ite ?_ ?_)
  | (with_reducible refine LeO.bind ?_ (fun _ => ?_))
  | exact ih0 _ _ _ _ _ _ _ _ _ _ _
  | exact ih1 _ _ _ _ _ _ _ _ _
  | exact impl_LatestOf.mono _ _ _ _
  | exact impl_PodOk.mono _ _ _ _ _
  | exact impl_StoreOk.mono _ _
  | exact LeO.none _
  | refine LeO.ite ?_ ?_
  | refine LeO.bind ?_ (fun _ => ?_)
set_option maxHeartbeats 8000000 in
set_option maxRecDepth 100000 in
theorem impl_ClassOf.calls (k : Nat) (a0_0 : ByteArray) (a0_1 : Int) (a0_2 : Int) (a0_3 : Bool) (A1 : Option Addr) (c1 : Nat) (l1 : List (S81)) (a2 : ByteArray) (a3 : Int) (a4_0 : Int) (a4_1 : Int) (a4_2 : Int) (r : Int) (w : World) (hr1 : Kd.C k81 w A1 l1.length l1) (hc1 : l1.length ≤ c1) (h : impl_ClassOf.f k a0_0 a0_1 a0_2 a0_3 l1 a2 a3 a4_0 a4_1 a4_2 = some r) :
 Calls Try.prog 90 #[.agg #[.string a0_0, .int .i64 a0_1, .int .i64 a0_2, .bool a0_3], .slice A1 l1.length c1, .string a2, .int .i64 a3, .agg #[.int .i64 a4_0, .int .i64 a4_1, .int .i64 a4_2]] w fun e w' => e = .returned (.int .i64 r) ∧ Below w.heap.size w w' := by
 have hu147 := Try.underlying147
 have hu61 := Try.underlying61
 have hu37 := Try.underlying37
 have HR1 := Aside0.mk hr1
 have HC1 := Aside0.mk hc1
 clear hr1 hc1
 have HB := Aside0.mk (Below.refl w.heap.size w)
 have H : ((impl_PodOk.f k a0_0 a0_1 a0_2 a0_3).bind fun t446 => (if t446 = true then ((impl_RulesOk.f a4_0 a4_1 a4_2).bind fun t447 => (if t447 = true then ((impl_isTick.f a3).bind fun t448 => (if t448 = true then ((impl_StoreOk.f k l1).bind fun t449 => (impl_ClassOf.j0 k l1 a2 a3 (!t449) a0_0 a0_1 a0_2 a0_3 a4_0 a4_1 a4_2)) else (impl_ClassOf.j0 k l1 a2 a3 true a0_0 a0_1 a0_2 a0_3 a4_0 a4_1 a4_2))) else (impl_ClassOf.j0 k l1 a2 a3 true a0_0 a0_1 a0_2 a0_3 a4_0 a4_1 a4_2))) else (impl_ClassOf.j0 k l1 a2 a3 true a0_0 a0_1 a0_2 a0_3 a4_0 a4_1 a4_2))) = some r := h
 clear h
 have HC6 := Aside0.mk H
 clear H
 go_enter Try.func90, Try.ntmps90
 go_upto_region 1 with (first | ((with_reducible refine gate_dst (N := 5) rfl ?_); refine bx 5 #[.string a0_0, .int .i64 a0_1, .int .i64 a0_2, .bool a0_3] 147 ?_; intro gb444 hg w7 hbox hb; have BK444 := ak hbox; have GW444 := gs hg bl; have GE444 := gs hg bl; replace HB := ak (below_step bl hb); clear hb hbox hg) | ((with_reducible refine gate_dst (N := 9) rfl ?_); refine bx 9 #[.int .i64 a4_0, .int .i64 a4_1, .int .i64 a4_2] 61 ?_; intro gb445 hg w8 hbox hb; have BK445 := ak hbox; have GW445 := gs hg (bl1 GE444); have GE445 := gs hg (bl1 GE444); replace HB := ak (below_step (bl1 GE444) hb); have NB444_445 := nl hg BK444; have NB445_444 := ng hg BK444; replace BK444 := bb BK444 hb; clear hb hbox hg))
 (try simp only [Act.put, List.setIfInBounds_toArray, List.set_cons_zero, List.set_cons_succ])
 go_cut [30] (fun v30 wc => ∃ (kq : Nat) (x30_5 : Bool), v30 = .bool x30_5 ∧ Aside0 (impl_ClassOf.j0 kq l1 a2 a3 x30_5 a0_0 a0_1 a0_2 a0_3 a4_0 a4_1 a4_2 = some r) ∧ Aside0 (kq ≤ k) ∧ Aside0 (wc.heap[gb444]? = some (.cells #[.string a0_0, .int .i64 a0_1, .int .i64 a0_2, .bool a0_3] 147 (0, 0))) ∧ Aside0 (wc.heap[gb445]? = some (.cells #[.int .i64 a4_0, .int .i64 a4_1, .int .i64 a4_2] 61 (0, 0))) ∧ Aside0 (Below w.heap.size w wc))
 case first =>
  have H := HC6.out
  clear HC6
  obtain ⟨t446, A90, H⟩ := bo H
  have A9 := Aside0.mk A90
  clear A90
  by_cases c10 : t446 = true
  · subst c10
    replace H := iT H
    obtain ⟨t447, A110, H⟩ := bo H
    have A11 := Aside0.mk A110
    clear A110
    by_cases c12 : t447 = true
    · subst c12
      replace H := iT H
      obtain ⟨t448, A130, H⟩ := bo H
      have A13 := Aside0.mk A130
      clear A130
      by_cases c14 : t448 = true
      · subst c14
        replace H := iT H
        obtain ⟨t449, A150, H⟩ := bo H
        have A15 := Aside0.mk A150
        clear A150
        have H' := Aside0.mk H
        clear H
        have hnb16 := NB444_445.out
        have hnc16 := NB445_444.out
        obtain ⟨hcz17_0, hcz17_1, hcz17_2, hcz17_3, hfz17_0, hfz17_1, hfz17_2, hfz17_3⟩ := cz4 BK444
        go_wp2_with (first | ((with_reducible refine gate_callee (f := 139) rfl ?_); refine gl (some 14) Try.func139 #[.agg #[.string a0_0, .int .i64 a0_1, .int .i64 a0_2, .bool a0_3]] ?_; (with_reducible refine (impl_PodOk.calls k a0_0 a0_1 a0_2 a0_3 true _ A9.out).mono ?_); rintro e w18 ⟨rfl, hb⟩; refine ⟨_, rfl, ?_⟩; replace BK444 := bb BK444 hb; replace BK445 := bb BK445 hb; replace HB := ak (below_step (bl2 GE444 GE445) hb); (try clear hb); (try clear hb2); (try clear hk); (try clear hi); obtain ⟨hcz19_0, hcz19_1, hcz19_2, hfz19_0, hfz19_1, hfz19_2⟩ := cz3 BK445) | (go_at_call 140; (with_reducible refine (impl_RulesOk.calls a4_0 a4_1 a4_2 true _ A11.out).mono ?_); rintro e w20 ⟨rfl, hb⟩; replace BK444 := bb BK444 hb; replace BK445 := bb BK445 hb; replace HB := ak (below_step (bl2 GE444 GE445) hb); (try clear hb); (try clear hb2); (try clear hk); (try clear hi)) | (go_at_call 122; (with_reducible refine (impl_isTick.calls a3 true _ A13.out).mono ?_); rintro e w' ⟨rfl, ⟨nd, rfl⟩⟩) | (go_at_call 49; (with_reducible refine (impl_StoreOk.calls k _ _ l1 t449 _ ?side1 ?side2 A15.out).mono ?_); (case side1 => repeat (first | exact (Kd.C_below HR1.out (bl2 GE444 GE445)) | (with_reducible refine Kd.C_alloc ?_ _) | (with_reducible refine Kd.C_drewN ?_ _) | (with_reducible refine Kd.C_drew ?_))); (case side2 => exact HC1.out); rintro e w21 ⟨rfl, hb⟩; replace BK444 := bb BK444 hb; replace BK445 := bb BK445 hb; replace HB := ak (below_step (bl2 GE444 GE445) hb); (try clear hb); (try clear hb2); (try clear hk); (try clear hi)))
        go_meet
        case rel => exact ⟨_, (!t449), es, H', ⟨by first | omega | exact Nat.le_refl _⟩, ⟨bk BK444⟩, ⟨bk BK445⟩, ⟨bl2 GE444 GE445⟩⟩
      · replace c14 := Bool.eq_false_iff.mpr c14
        subst c14
        replace H := iF H
        have H' := Aside0.mk H
        clear H
        have hnb22 := NB444_445.out
        have hnc22 := NB445_444.out
        obtain ⟨hcz23_0, hcz23_1, hcz23_2, hcz23_3, hfz23_0, hfz23_1, hfz23_2, hfz23_3⟩ := cz4 BK444
        go_wp2_with (first | ((with_reducible refine gate_callee (f := 139) rfl ?_); refine gl (some 14) Try.func139 #[.agg #[.string a0_0, .int .i64 a0_1, .int .i64 a0_2, .bool a0_3]] ?_; (with_reducible refine (impl_PodOk.calls k a0_0 a0_1 a0_2 a0_3 true _ A9.out).mono ?_); rintro e w24 ⟨rfl, hb⟩; refine ⟨_, rfl, ?_⟩; replace BK444 := bb BK444 hb; replace BK445 := bb BK445 hb; replace HB := ak (below_step (bl2 GE444 GE445) hb); (try clear hb); (try clear hb2); (try clear hk); (try clear hi); obtain ⟨hcz25_0, hcz25_1, hcz25_2, hfz25_0, hfz25_1, hfz25_2⟩ := cz3 BK445) | (go_at_call 140; (with_reducible refine (impl_RulesOk.calls a4_0 a4_1 a4_2 true _ A11.out).mono ?_); rintro e w26 ⟨rfl, hb⟩; replace BK444 := bb BK444 hb; replace BK445 := bb BK445 hb; replace HB := ak (below_step (bl2 GE444 GE445) hb); (try clear hb); (try clear hb2); (try clear hk); (try clear hi)) | (go_at_call 122; (with_reducible refine (impl_isTick.calls a3 false _ A13.out).mono ?_); rintro e w' ⟨rfl, ⟨nd, rfl⟩⟩))
        go_meet
        case rel => exact ⟨_, (true), es, H', ⟨by first | omega | exact Nat.le_refl _⟩, ⟨bk BK444⟩, ⟨bk BK445⟩, ⟨bl2 GE444 GE445⟩⟩
    · replace c12 := Bool.eq_false_iff.mpr c12
      subst c12
      replace H := iF H
      have H' := Aside0.mk H
      clear H
      have hnb27 := NB444_445.out
      have hnc27 := NB445_444.out
      obtain ⟨hcz28_0, hcz28_1, hcz28_2, hcz28_3, hfz28_0, hfz28_1, hfz28_2, hfz28_3⟩ := cz4 BK444
      go_wp2_with (first | ((with_reducible refine gate_callee (f := 139) rfl ?_); refine gl (some 14) Try.func139 #[.agg #[.string a0_0, .int .i64 a0_1, .int .i64 a0_2, .bool a0_3]] ?_; (with_reducible refine (impl_PodOk.calls k a0_0 a0_1 a0_2 a0_3 true _ A9.out).mono ?_); rintro e w29 ⟨rfl, hb⟩; refine ⟨_, rfl, ?_⟩; replace BK444 := bb BK444 hb; replace BK445 := bb BK445 hb; replace HB := ak (below_step (bl2 GE444 GE445) hb); (try clear hb); (try clear hb2); (try clear hk); (try clear hi); obtain ⟨hcz30_0, hcz30_1, hcz30_2, hfz30_0, hfz30_1, hfz30_2⟩ := cz3 BK445) | (go_at_call 140; (with_reducible refine (impl_RulesOk.calls a4_0 a4_1 a4_2 false _ A11.out).mono ?_); rintro e w31 ⟨rfl, hb⟩; replace BK444 := bb BK444 hb; replace BK445 := bb BK445 hb; replace HB := ak (below_step (bl2 GE444 GE445) hb); (try clear hb); (try clear hb2); (try clear hk); (try clear hi)))
      go_meet
      case rel => exact ⟨_, (true), es, H', ⟨by first | omega | exact Nat.le_refl _⟩, ⟨bk BK444⟩, ⟨bk BK445⟩, ⟨bl2 GE444 GE445⟩⟩
  · replace c10 := Bool.eq_false_iff.mpr c10
    subst c10
    replace H := iF H
    have H' := Aside0.mk H
    clear H
    have hnb32 := NB444_445.out
    have hnc32 := NB445_444.out
    obtain ⟨hcz33_0, hcz33_1, hcz33_2, hcz33_3, hfz33_0, hfz33_1, hfz33_2, hfz33_3⟩ := cz4 BK444
    go_wp2_with (first | ((with_reducible refine gate_callee (f := 139) rfl ?_); refine gl (some 14) Try.func139 #[.agg #[.string a0_0, .int .i64 a0_1, .int .i64 a0_2, .bool a0_3]] ?_; (with_reducible refine (impl_PodOk.calls k a0_0 a0_1 a0_2 a0_3 false _ A9.out).mono ?_); rintro e w34 ⟨rfl, hb⟩; refine ⟨_, rfl, ?_⟩; replace BK444 := bb BK444 hb; replace BK445 := bb BK445 hb; replace HB := ak (below_step (bl2 GE444 GE445) hb); (try clear hb); (try clear hb2); (try clear hk); (try clear hi)))
    go_meet
    case rel => exact ⟨_, (true), es, H', ⟨by first | omega | exact Nat.le_refl _⟩, ⟨bk BK444⟩, ⟨bk BK445⟩, ⟨bl2 GE444 GE445⟩⟩
 case rest =>
  clear HC6
  try clear c1
  try clear c2
  try clear p2
  try clear c3
  try clear c9
  try clear c10
  try clear c12
  try clear c13
  try clear c14
  try clear c16
  try clear c22
  try clear c27
  try clear c32
  try clear hcz17_0
  try clear hcz17_1
  try clear hcz17_2
  try clear hcz17_3
  try clear hcz19_0
  try clear hcz19_1
  try clear hcz19_2
  try clear hcz23_0
  try clear hcz23_1
  try clear hcz23_2
  try clear hcz23_3
  try clear hcz25_0
  try clear hcz25_1
  try clear hcz25_2
  try clear hcz28_0
  try clear hcz28_1
  try clear hcz28_2
  try clear hcz28_3
  try clear hcz30_0
  try clear hcz30_1
  try clear hcz30_2
  try clear hcz33_0
  try clear hcz33_1
  try clear hcz33_2
  try clear hcz33_3
  try clear hfz17_0
  try clear hfz17_1
  try clear hfz17_2
  try clear hfz17_3
  try clear hfz19_0
  try clear hfz19_1
  try clear hfz19_2
  try clear hfz23_0
  try clear hfz23_1
  try clear hfz23_2
  try clear hfz23_3
  try clear hfz25_0
  try clear hfz25_1
  try clear hfz25_2
  try clear hfz28_0
  try clear hfz28_1
  try clear hfz28_2
  try clear hfz28_3
  try clear hfz30_0
  try clear hfz30_1
  try clear hfz30_2
  try clear hfz33_0
  try clear hfz33_1
  try clear hfz33_2
  try clear hfz33_3
  obtain ⟨kq, x30_5, rfl, HA, HJ5, BK444, BK445, HB⟩ := hcut
  cases kq with
  | zero => exact absurd HA.out (by simp [impl_ClassOf.j0])
  | succ kj5 =>
   have H := HA.out
   clear HA
   simp only [impl_ClassOf.j0] at H
   by_cases c35 : x30_5 = true
   · subst c35
     replace H := iT H
     obtain rfl := Option.some.inj H
     go_wp2
     go_ret
     exact ⟨ew, bl2 GE444 GE445⟩
   · replace c35 := Bool.eq_false_iff.mpr c35
     subst c35
     replace H := iF H
     replace H := Option.bind_eq_some_iff.mp H
     obtain ⟨⟨t450, t451, t452⟩, A360, H⟩ := H
     replace H : (if a0_2 = 0 then (if t452 = true then (impl_ClassOf.j1 kj5 a3 (decide ((wrap64 (t450 + a4_1)) < a3)) a0_0 a0_1 a0_2 a0_3 a4_0 a4_1 a4_2) else (impl_ClassOf.j1 kj5 a3 true a0_0 a0_1 a0_2 a0_3 a4_0 a4_1 a4_2)) else (some 3)) = some r := H
     have A36 := Aside0.mk A360
     clear A360
     by_cases c37 : a0_2 = 0
     · rw [if_pos c37] at H
       have c37b0 : (a0_2 == 0) = true := beq_iff_eq.mpr c37
       have c37b1 : (a0_2 != 0) = false := bne_eq_false_iff_eq.mpr c37
       clear c37
       have HC38 := Aside0.mk H
       clear H
       have hnb39 := NB444_445.out
       have hnc39 := NB445_444.out
       obtain ⟨hcz40_0, hcz40_1, hcz40_2, hcz40_3, hfz40_0, hfz40_1, hfz40_2, hfz40_3⟩ := cz4 BK444
       go_upto_region 6 with (first | ((with_reducible refine gate_callee (f := 20) rfl ?_); refine gl (some 36) Try.func20 #[.slice A1 l1.length c1, .string a0_0, .string a2] ?_; (with_reducible refine (impl_LatestOf.calls kj5 _ _ l1 a0_0 a2 t450 t451 t452 _ ?side1 ?side2 A36.out).mono ?_); (case side1 => exact cb HR1); (case side2 => exact HC1.out); rintro e w41 ⟨rfl, hb⟩; refine ⟨_, rfl, ?_⟩; replace BK444 := bb BK444 hb; replace BK445 := bb BK445 hb; replace HB := ak (below_step (bl2 GE444 GE445) hb); (try clear hb); (try clear hb2); (try clear hk); (try clear hi)) | ((with_reducible refine gate_dst (N := 11) rfl ?_); refine bx 11 #[.int .i64 0, .int .i64 0] 37 ?_; intro gb453 hg w42 hbox hb; have BK453 := ak hbox; have GW453 := gs hg (bl2 GE444 GE445); have GE453 := gs hg (bl2 GE444 GE445); replace HB := ak (below_step (bl2 GE444 GE445) hb); have NB444_453 := nl hg BK444; have NB453_444 := ng hg BK444; replace BK444 := bb BK444 hb; have NB445_453 := nl hg BK445; have NB453_445 := ng hg BK445; replace BK445 := bb BK445 hb; clear hb hbox hg; have hnb43 := NB453_444.out; have hnc43 := NB444_453.out; have hnb44 := NB453_445.out; have hnc44 := NB445_453.out; obtain ⟨hcz45_0, hcz45_1, hfz45_0, hfz45_1⟩ := cz2 BK453; obtain ⟨hcz46_0, hcz46_1, hcz46_2, hcz46_3, hfz46_0, hfz46_1, hfz46_2, hfz46_3⟩ := cz4 BK444))
       (try simp only [Act.put, List.setIfInBounds_toArray, List.set_cons_zero, List.set_cons_succ])
       go_cut [43] (fun v43 wc => ∃ (kq : Nat) (x43_37 : Bool), v43 = .bool x43_37 ∧ Aside0 (impl_ClassOf.j1 kq a3 x43_37 a0_0 a0_1 a0_2 a0_3 a4_0 a4_1 a4_2 = some r) ∧ Aside0 (kq ≤ kj5) ∧ Aside0 (wc.heap[gb444]? = some (.cells #[.string a0_0, .int .i64 a0_1, .int .i64 a0_2, .bool a0_3] 147 (0, 0))) ∧ Aside0 (wc.heap[gb445]? = some (.cells #[.int .i64 a4_0, .int .i64 a4_1, .int .i64 a4_2] 61 (0, 0))) ∧ Aside0 (wc.heap[gb453]? = some (.cells #[.int .i64 t450, .int .i64 t451] 37 (0, 0))) ∧ Aside0 (Below w.heap.size w wc))
       case first =>
        have H := HC38.out
        clear HC38
        by_cases c47 : t452 = true
        · subst c47
          replace H := iT H
          have H' := Aside0.mk H
          clear H
          have hnb48 := NB453_444.out
          have hnc48 := NB444_453.out
          have hnb49 := NB453_445.out
          have hnc49 := NB445_453.out
          obtain ⟨hcz50_0, hcz50_1, hfz50_0, hfz50_1⟩ := cz2 BK453
          have hnb51 := NB445_444.out
          have hnc51 := NB444_445.out
          obtain ⟨hcz52_0, hcz52_1, hcz52_2, hfz52_0, hfz52_1, hfz52_2⟩ := cz3 BK445
          go_wp2
          go_meet
          case rel => exact ⟨_, (decide ((wrap64 (t450 + a4_1)) < a3)), es, H', ⟨by have := HJ5.out; first | omega | exact Nat.le_refl _⟩, ⟨by (with_reducible repeat (first | refine blk_drewN ?_ _ | refine blk_drew ?_ | refine blk_alloc ?_ _)); refine blk_far ?_ NB444_453.out _; (with_reducible repeat (first | refine blk_drewN ?_ _ | refine blk_drew ?_ | refine blk_alloc ?_ _)); refine blk_far ?_ NB444_453.out _; (with_reducible repeat (first | refine blk_drewN ?_ _ | refine blk_drew ?_ | refine blk_alloc ?_ _)); exact BK444.out⟩, ⟨by (with_reducible repeat (first | refine blk_drewN ?_ _ | refine blk_drew ?_ | refine blk_alloc ?_ _)); refine blk_far ?_ NB445_453.out _; (with_reducible repeat (first | refine blk_drewN ?_ _ | refine blk_drew ?_ | refine blk_alloc ?_ _)); refine blk_far ?_ NB445_453.out _; (with_reducible repeat (first | refine blk_drewN ?_ _ | refine blk_drew ?_ | refine blk_alloc ?_ _)); exact BK445.out⟩, ⟨by (with_reducible repeat (first | refine blk_drewN ?_ _ | refine blk_drew ?_ | refine blk_alloc ?_ _)); refine blk_put (cs := #[.int .i64 t450, .int .i64 0]) ?_ 1 _ rfl; (with_reducible repeat (first | refine blk_drewN ?_ _ | refine blk_drew ?_ | refine blk_alloc ?_ _)); refine blk_put (cs := #[.int .i64 0, .int .i64 0]) ?_ 0 _ rfl; (with_reducible repeat (first | refine blk_drewN ?_ _ | refine blk_drew ?_ | refine blk_alloc ?_ _)); exact BK453.out⟩, ⟨bl3 GE444 GE445 GE453⟩⟩
        · replace c47 := Bool.eq_false_iff.mpr c47
          subst c47
          replace H := iF H
          have H' := Aside0.mk H
          clear H
          go_wp2
          go_meet
          case rel => exact ⟨_, (true), es, H', ⟨by have := HJ5.out; first | omega | exact Nat.le_refl _⟩, ⟨by (with_reducible repeat (first | refine blk_drewN ?_ _ | refine blk_drew ?_ | refine blk_alloc ?_ _)); refine blk_far ?_ NB444_453.out _; (with_reducible repeat (first | refine blk_drewN ?_ _ | refine blk_drew ?_ | refine blk_alloc ?_ _)); refine blk_far ?_ NB444_453.out _; (with_reducible repeat (first | refine blk_drewN ?_ _ | refine blk_drew ?_ | refine blk_alloc ?_ _)); exact BK444.out⟩, ⟨by (with_reducible repeat (first | refine blk_drewN ?_ _ | refine blk_drew ?_ | refine blk_alloc ?_ _)); refine blk_far ?_ NB445_453.out _; (with_reducible repeat (first | refine blk_drewN ?_ _ | refine blk_drew ?_ | refine blk_alloc ?_ _)); refine blk_far ?_ NB445_453.out _; (with_reducible repeat (first | refine blk_drewN ?_ _ | refine blk_drew ?_ | refine blk_alloc ?_ _)); exact BK445.out⟩, ⟨by (with_reducible repeat (first | refine blk_drewN ?_ _ | refine blk_drew ?_ | refine blk_alloc ?_ _)); refine blk_put (cs := #[.int .i64 t450, .int .i64 0]) ?_ 1 _ rfl; (with_reducible repeat (first | refine blk_drewN ?_ _ | refine blk_drew ?_ | refine blk_alloc ?_ _)); refine blk_put (cs := #[.int .i64 0, .int .i64 0]) ?_ 0 _ rfl; (with_reducible repeat (first | refine blk_drewN ?_ _ | refine blk_drew ?_ | refine blk_alloc ?_ _)); exact BK453.out⟩, ⟨bl3 GE444 GE445 GE453⟩⟩
       case rest =>
        clear HC38
        try clear c1
        try clear c2
        try clear p2
        try clear c3
        try clear c4
        try clear c5
        try clear p6
        try clear c9
        try clear c10
        try clear c12
        try clear c13
        try clear c14
        try clear c16
        try clear c20
        try clear c22
        try clear c27
        try clear c32
        try clear c35
        try clear c37
        try clear c37b0
        try clear c37b1
        try clear c39
        try clear c43
        try clear c44
        try clear c47
        try clear c48
        try clear c49
        try clear c51
        try clear hcz17_0
        try clear hcz17_1
        try clear hcz17_2
        try clear hcz17_3
        try clear hcz19_0
        try clear hcz19_1
        try clear hcz19_2
        try clear hcz23_0
        try clear hcz23_1
        try clear hcz23_2
        try clear hcz23_3
        try clear hcz25_0
        try clear hcz25_1
        try clear hcz25_2
        try clear hcz28_0
        try clear hcz28_1
        try clear hcz28_2
        try clear hcz28_3
        try clear hcz30_0
        try clear hcz30_1
        try clear hcz30_2
        try clear hcz33_0
        try clear hcz33_1
        try clear hcz33_2
        try clear hcz33_3
        try clear hcz40_0
        try clear hcz40_1
        try clear hcz40_2
        try clear hcz40_3
        try clear hcz45_0
        try clear hcz45_1
        try clear hcz46_0
        try clear hcz46_1
        try clear hcz46_2
        try clear hcz46_3
        try clear hcz50_0
        try clear hcz50_1
        try clear hcz52_0
        try clear hcz52_1
        try clear hcz52_2
        try clear hfz17_0
        try clear hfz17_1
        try clear hfz17_2
        try clear hfz17_3
        try clear hfz19_0
        try clear hfz19_1
        try clear hfz19_2
        try clear hfz23_0
        try clear hfz23_1
        try clear hfz23_2
        try clear hfz23_3
        try clear hfz25_0
        try clear hfz25_1
        try clear hfz25_2
        try clear hfz28_0
        try clear hfz28_1
        try clear hfz28_2
        try clear hfz28_3
        try clear hfz30_0
        try clear hfz30_1
        try clear hfz30_2
        try clear hfz33_0
        try clear hfz33_1
        try clear hfz33_2
        try clear hfz33_3
        try clear hfz40_0
        try clear hfz40_1
        try clear hfz40_2
        try clear hfz40_3
        try clear hfz45_0
        try clear hfz45_1
        try clear hfz46_0
        try clear hfz46_1
        try clear hfz46_2
        try clear hfz46_3
        try clear hfz50_0
        try clear hfz50_1
        try clear hfz52_0
        try clear hfz52_1
        try clear hfz52_2
        try clear p2
        obtain ⟨kq, x43_37, rfl, HA, HJ37, BK444, BK445, BK453, HB⟩ := hcut
        cases kq with
        | zero => exact absurd HA.out (by simp [impl_ClassOf.j1])
        | succ kj37 =>
         have H := HA.out
         clear HA
         simp only [impl_ClassOf.j1] at H
         by_cases c53 : x43_37 = true
         · subst c53
           replace H := iT H
           obtain rfl := Option.some.inj H
           go_wp2
           go_ret
           exact ⟨ew, bl3 GE444 GE445 GE453⟩
         · replace c53 := Bool.eq_false_iff.mpr c53
           subst c53
           replace H := iF H
           by_cases c54 : a0_3 = true
           · subst c54
             replace H := iT H
             by_cases c55 : (wrap64 (a0_1 + a4_0)) > a3
             · rw [if_pos c55] at H
               have c55b0 : decide (a3 < (wrap64 (a0_1 + a4_0))) = true := decide_eq_true c55
               clear c55
               obtain rfl := Option.some.inj H
               have hnb56 := NB444_445.out
               have hnc56 := NB445_444.out
               have hnb57 := NB444_453.out
               have hnc57 := NB453_444.out
               obtain ⟨hcz58_0, hcz58_1, hcz58_2, hcz58_3, hfz58_0, hfz58_1, hfz58_2, hfz58_3⟩ := cz4 BK444
               have hnb59 := NB445_453.out
               have hnc59 := NB453_445.out
               obtain ⟨hcz60_0, hcz60_1, hcz60_2, hfz60_0, hfz60_1, hfz60_2⟩ := cz3 BK445
               go_wp2
               go_ret
               exact ⟨ew, bl3 GE444 GE445 GE453⟩
             · rw [if_neg c55] at H
               have c55b0 : decide (a3 < (wrap64 (a0_1 + a4_0))) = false := decide_eq_false c55
               clear c55
               obtain rfl := Option.some.inj H
               have hnb61 := NB444_445.out
               have hnc61 := NB445_444.out
               have hnb62 := NB444_453.out
               have hnc62 := NB453_444.out
               obtain ⟨hcz63_0, hcz63_1, hcz63_2, hcz63_3, hfz63_0, hfz63_1, hfz63_2, hfz63_3⟩ := cz4 BK444
               have hnb64 := NB445_453.out
               have hnc64 := NB453_445.out
               obtain ⟨hcz65_0, hcz65_1, hcz65_2, hfz65_0, hfz65_1, hfz65_2⟩ := cz3 BK445
               go_wp2
               go_ret
               exact ⟨ew, bl3 GE444 GE445 GE453⟩
           · replace c54 := Bool.eq_false_iff.mpr c54
             subst c54
             replace H := iF H
             obtain rfl := Option.some.inj H
             have hnb66 := NB444_445.out
             have hnc66 := NB445_444.out
             have hnb67 := NB444_453.out
             have hnc67 := NB453_444.out
             obtain ⟨hcz68_0, hcz68_1, hcz68_2, hcz68_3, hfz68_0, hfz68_1, hfz68_2, hfz68_3⟩ := cz4 BK444
             go_wp2
             go_ret
             exact ⟨ew, bl3 GE444 GE445 GE453⟩
     · rw [if_neg c37] at H
       have c37b0 : (a0_2 == 0) = false := beq_eq_false_iff_ne.mpr c37
       have c37b1 : (a0_2 != 0) = true := bne_iff_ne.mpr c37
       obtain rfl := Option.some.inj H
       have hnb69 := NB444_445.out
       have hnc69 := NB445_444.out
       obtain ⟨hcz70_0, hcz70_1, hcz70_2, hcz70_3, hfz70_0, hfz70_1, hfz70_2, hfz70_3⟩ := cz4 BK444
       go_wp2_with (first | ((with_reducible refine gate_callee (f := 20) rfl ?_); refine gl (some 36) Try.func20 #[.slice A1 l1.length c1, .string a0_0, .string a2] ?_; (with_reducible refine (impl_LatestOf.calls kj5 _ _ l1 a0_0 a2 t450 t451 t452 _ ?side1 ?side2 A36.out).mono ?_); (case side1 => exact cb HR1); (case side2 => exact HC1.out); rintro e w71 ⟨rfl, hb⟩; refine ⟨_, rfl, ?_⟩; replace BK444 := bb BK444 hb; replace BK445 := bb BK445 hb; replace HB := ak (below_step (bl2 GE444 GE445) hb); (try clear hb); (try clear hb2); (try clear hk); (try clear hi)) | ((with_reducible refine gate_dst (N := 11) rfl ?_); refine bx 11 #[.int .i64 0, .int .i64 0] 37 ?_; intro gb453 hg w72 hbox hb; have BK453 := ak hbox; have GW453 := gs hg (bl2 GE444 GE445); have GE453 := gs hg (bl2 GE444 GE445); replace HB := ak (below_step (bl2 GE444 GE445) hb); have NB444_453 := nl hg BK444; have NB453_444 := ng hg BK444; replace BK444 := bb BK444 hb; have NB445_453 := nl hg BK445; have NB453_445 := ng hg BK445; replace BK445 := bb BK445 hb; clear hb hbox hg; have hnb73 := NB453_444.out; have hnc73 := NB444_453.out; have hnb74 := NB453_445.out; have hnc74 := NB445_453.out; obtain ⟨hcz75_0, hcz75_1, hfz75_0, hfz75_1⟩ := cz2 BK453; obtain ⟨hcz76_0, hcz76_1, hcz76_2, hcz76_3, hfz76_0, hfz76_1, hfz76_2, hfz76_3⟩ := cz4 BK444))
       go_ret
       exact ⟨ew, bl3 GE444 GE445 GE453⟩

end Go.Proofs.Ytplekidnlofioaa.Q
namespace Go.Proofs.Ytplekidnlofioaa.Q
open Go.RowKit Go.Proofs.YtplekidnlofioaaW.PrintWords Go.Proofs.YtplekidnlofioaaW.PrintLast Go.Proofs.YtplekidnlofioaaW.PrintMore
attribute [local go_sem] max2_int min2_int max_two min_two max_three min_three max_four min_four   -- for this text's walks alone
set_option linter.unusedVariables false
set_option linter.unusedSimpArgs false

/-! ### impl_ClassesOf: function 36 -/
def impl_ClassesOf.l0 : Nat → List (S81) → ByteArray → Int → List Int → List (S147) → Int → Int → Int → Int → Int → Option (List Int)
 | 0, _, _, _, _, _, _, _, _, _, _ => none
 | k + 1, x1, x2, x3, x11, x18, x19, x20, x455000, x455001, x455002 => if x20 < x19 then (if 0 ≤ x20 then (if x20 < (x18.length : Int) then ((impl_ClassOf.f k ((rd_T147 x18 x20).f0) ((rd_T147 x18 x20).f1) ((rd_T147 x18 x20).f2) ((rd_T147 x18 x20).f3) x1 x2 x3 x455000 x455001 x455002).bind fun t458 => (if t458 < 0 then (some ([] : List Int)) else (if x11.length < 17592186044416 then (impl_ClassesOf.l0 k x1 x2 x3 (x11 ++ [t458]) x18 x19 (wrap64 (x20 + 1)) x455000 x455001 x455002) else (none)))) else (none)) else (none)) else (some x11)
def impl_ClassesOf.f (k : Nat) (l0 : List (S147)) (l1 : List (S81)) (a2 : ByteArray) (a3 : Int) (a4_0 : Int) (a4_1 : Int) (a4_2 : Int) : Option (List Int) := (impl_PodsOk.f k l0).bind fun t455 => (if t455 = true then (impl_ClassesOf.l0 k l1 a2 a3 ([] : List Int) l0 (l0.length : Int) 0 a4_0 a4_1 a4_2) else (some ([] : List Int)))
theorem impl_ClassesOf.mono_l : ∀ k, (∀ y0 y1 y2 y3 y4 y5 y6 y7 y8 y9, LeO (impl_ClassesOf.l0 k y0 y1 y2 y3 y4 y5 y6 y7 y8 y9) (impl_ClassesOf.l0 (k + 1) y0 y1 y2 y3 y4 y5 y6 y7 y8 y9))
 | 0 => fun _ _ _ _ _ _ _ _ _ _ r h => by simp [impl_ClassesOf.l0] at h
 | k + 1 => by
  have ih0 := impl_ClassesOf.mono_l k
  · intro y0 y1 y2 y3 y4 y5 y6 y7 y8 y9
    unfold impl_ClassesOf.l0
    repeat' first
    | (with_reducible exact ih0 _ _ _ _ _ _ _ _ _ _)
    | (with_reducible exact impl_ClassOf.mono _ _ _ _ _ _ _ _ _ _ _)
    | (with_reducible exact impl_PodsOk.mono _ _)
    | (with_reducible exact LeO.refl _)
    | (with_reducible exact LeO.none _)
    | (with_reducible refine LeO.ite ?_ ?_)
    | (with_reducible refine LeO.bind ?_ (fun _ => ?_))
    | exact ih0 _ _ _ _ _ _ _ _ _ _
    | exact impl_ClassOf.mono _ _ _ _ _ _ _ _ _ _ _
    | exact impl_PodsOk.mono _ _
    | exact LeO.none _
    | refine LeO.ite ?_ ?_
    | refine LeO.bind ?_ (fun _ => ?_)
theorem impl_ClassesOf.mono : ∀ a0 a1 a2 a3 a4 a5 a6 k, LeO (impl_ClassesOf.f k a0 a1 a2 a3 a4 a5 a6) (impl_ClassesOf.f (k + 1) a0 a1 a2 a3 a4 a5 a6) := by
 intro a0 a1 a2 a3 a4 a5 a6 k
 have ih0 := impl_ClassesOf.mono_l k
 unfold impl_ClassesOf.f
 repeat' first
  | (with_reducible exact ih0 _ _ _ _ _ _ _ _ _ _)
  | (with_reducible exact impl_ClassOf.mono _ _ _ _ _ _ _ _ _ _ _)
  | (with_reducible exact impl_PodsOk.mono _ _)
  | (with_reducible exact LeO.refl _)
  | (with_reducible exact LeO.none _)
  | (with_reducible refine LeO.ite ?_ ?_)
  | (with_reducible refine LeO.bind ?_ (fun _ => ?_))
  | exact ih0 _ _ _ _ _ _ _ _ _ _
  | exact impl_ClassOf.mono _ _ _ _ _ _ _ _ _ _ _
  | exact impl_PodsOk.mono _ _
  | exact LeO.none _
  | refine LeO.ite ?_ ?_
  | refine LeO.bind ?_ (fun _ => ?_)
set_option maxHeartbeats 8000000 in
set_option maxRecDepth 100000 in
theorem impl_ClassesOf.calls (k : Nat) (A0 : Option Addr) (c0 : Nat) (l0 : List (S147)) (A1 : Option Addr) (c1 : Nat) (l1 : List (S81)) (a2 : ByteArray) (a3 : Int) (a4_0 : Int) (a4_1 : Int) (a4_2 : Int) (r : List Int) (w : World) (hr0 : Kd.C k147 w A0 l0.length l0) (hc0 : l0.length ≤ c0) (hr1 : Kd.C k81 w A1 l1.length l1) (hc1 : l1.length ≤ c1) (h : impl_ClassesOf.f k l0 l1 a2 a3 a4_0 a4_1 a4_2 = some r) :
 Calls Try.prog 36 #[.slice A0 l0.length c0, .slice A1 l1.length c1, .string a2, .int .i64 a3, .agg #[.int .i64 a4_0, .int .i64 a4_1, .int .i64 a4_2]] w fun e w' => ∃ v0_ : Value, e = .returned (v0_) ∧ Kd.R (Kd.int .i64) 3 w' w.heap.size (fun _ => True) v0_ r ∧ Below w.heap.size w w' := by
 have hu61 := Try.underlying61
 have hu147 := Try.underlying147
 have HR0 := Aside0.mk hr0
 have HC0 := Aside0.mk hc0
 clear hr0 hc0
 have HR1 := Aside0.mk hr1
 have HC1 := Aside0.mk hc1
 clear hr1 hc1
 have HB := Aside0.mk (Below.refl w.heap.size w)
 have H : ((impl_PodsOk.f k l0).bind fun t455 => (if t455 = true then (impl_ClassesOf.l0 k l1 a2 a3 ([] : List Int) l0 (l0.length : Int) 0 a4_0 a4_1 a4_2) else (some ([] : List Int)))) = some r := h
 clear h
 obtain ⟨t455, A60, H⟩ := bo H
 have A6 := Aside0.mk A60
 clear A60
 by_cases c7 : t455 = true
 · subst c7
   replace H := iT H
   have H' := Aside0.mk H
   clear H
   go_enter Try.func36, Try.ntmps36
   go_wp2_with (first | ((with_reducible refine gate_dst (N := 9) rfl ?_); refine bx 9 #[.int .i64 a4_0, .int .i64 a4_1, .int .i64 a4_2] 61 ?_; intro gb454 hg w8 hbox hb; have BK454 := ak hbox; have GW454 := gs hg bl; have GE454 := gs hg bl; replace HB := ak (below_step bl hb); clear hb hbox hg) | ((with_reducible refine gate_callee (f := 89) rfl ?_); refine gl (some 16) Try.func89 #[.slice A0 l0.length c0] ?_; (with_reducible refine (impl_PodsOk.calls k _ _ l0 true _ ?side1 ?side2 A6.out).mono ?_); (case side1 => exact cb HR0); (case side2 => exact HC0.out); rintro e w9 ⟨rfl, hb⟩; refine ⟨_, rfl, ?_⟩; replace BK454 := bb BK454 hb; replace HB := ak (below_step (bl1 GE454) hb); (try clear hb); (try clear hb2); (try clear hk); (try clear hi)))
   go_loopg [11, 20] k (fun kq v11 v20 w' => ∃ (x11_1 : List Int) (x20_1 : Int), v20 = .int .i64 x20_1 ∧ Aside0 (impl_ClassesOf.l0 kq l1 a2 a3 x11_1 l0 (l0.length : Int) x20_1 a4_0 a4_1 a4_2 = some r) ∧ Aside0 (kq ≤ k) ∧ Aside0 (Kd.R (Kd.int .i64) 3 w' w.heap.size (fun _ => True) v11 x11_1) ∧ Aside0 (w'.heap[gb454]? = some (.cells #[.int .i64 a4_0, .int .i64 a4_1, .int .i64 a4_2] 61 (0, 0))) ∧ Aside0 (Below w.heap.size w w'))
   case atStart => exact ⟨(([] : List Int)), (0), es, H', ⟨Nat.le_refl _⟩, ⟨by first | exact Kd.R_nil _ _ _ _ _ | exact Kd.N_nil _ _ _ _ _ | exact Kd.V_nil _ _ _ _ _ | exact Kd.Q_nil _ _ _ _ _ | exact Kd.S_nil _ _ _ _ _⟩, ⟨bk BK454⟩, ⟨bl1 GE454⟩⟩
   case round =>
    clear H'
    try clear c1
    try clear p2
    try clear c3
    try clear c7
    try clear c8
    obtain ⟨x11_1, x20_1, rfl, HA, HK1, HO_11, BK454, HB⟩ := hrel
    cases gk with
    | zero => exact absurd HA.out (by simp [impl_ClassesOf.l0])
    | succ k1 =>
     have H := HA.out
     clear HA
     simp only [impl_ClassesOf.l0] at H
     by_cases c10 : x20_1 < (l0.length : Int)
     · rw [if_pos c10] at H
       have c10b0 : decide (x20_1 < (l0.length : Int)) = true := decide_eq_true c10
       clear c10
       by_cases c11 : 0 ≤ x20_1
       · rw [if_pos c11] at H
         have c11b0 : decide (0 ≤ x20_1) = true := decide_eq_true c11
         clear c11
         by_cases c12 : x20_1 < (l0.length : Int)
         · rw [if_pos c12] at H
           have c12b0 : decide (x20_1 < (l0.length : Int)) = true := decide_eq_true c12
           clear c12
           obtain ⟨t458, A130, H⟩ := bo H
           have A13 := Aside0.mk A130
           clear A130
           by_cases c14 : t458 < 0
           · rw [if_pos c14] at H
             have c14b0 : decide (t458 < 0) = true := decide_eq_true c14
             clear c14
             obtain rfl := Option.some.inj H
             have p456 : 0 ≤ (x20_1 : Int) := of_decide_eq_true am
             have q456 : x20_1 < (l0.length : Int) := of_decide_eq_true am
             obtain ⟨ad456, e456, hx456_0, hx456_1, hx456_2, hx456_3⟩ := at_T147 HR0.out x20_1 p456 q456
             cases e456
             replace hx456_0 := cw hx456_0
             replace hx456_1 := cw hx456_1
             replace hx456_2 := cw hx456_2
             replace hx456_3 := cw hx456_3
             replace p456 := eq_true p456
             replace q456 := eq_true q456
             go_wp2_with (first | ((with_reducible refine gate_dst (N := 13) rfl ?_); refine bx 13 #[.string (⟨#[]⟩ : ByteArray), .int .i64 0, .int .i64 0, .bool false] 147 ?_; intro gb457 hg w15 hbox hb; replace HO_11 := ak (Kd.R_below (kr HO_11) hb); have BK457 := ak hbox; have GW457 := gs hg (bl1 GE454); have GE457 := gs hg (bl1 GE454); replace HB := ak (below_step (bl1 GE454) hb); have NB454_457 := nl hg BK454; have NB457_454 := ng hg BK454; replace BK454 := bb BK454 hb; clear hb hbox hg; have hnb16 := NB457_454.out; have hnc16 := NB454_457.out; obtain ⟨hcz17_0, hcz17_1, hcz17_2, hcz17_3, hfz17_0, hfz17_1, hfz17_2, hfz17_3⟩ := cz4 BK457; obtain ⟨hcz18_0, hcz18_1, hcz18_2, hfz18_0, hfz18_1, hfz18_2⟩ := cz3 BK454) | ((with_reducible refine gate_callee (f := 90) rfl ?_); refine gl (some 29) Try.func90 #[.agg #[.string ((rd_T147 l0 x20_1).f0), .int .i64 ((rd_T147 l0 x20_1).f1), .int .i64 ((rd_T147 l0 x20_1).f2), .bool ((rd_T147 l0 x20_1).f3)], .slice A1 l1.length c1, .string a2, .int .i64 a3, .agg #[.int .i64 a4_0, .int .i64 a4_1, .int .i64 a4_2]] ?_; (with_reducible refine (impl_ClassOf.calls k1 ((rd_T147 l0 x20_1).f0) ((rd_T147 l0 x20_1).f1) ((rd_T147 l0 x20_1).f2) ((rd_T147 l0 x20_1).f3) _ _ l1 a2 a3 a4_0 a4_1 a4_2 t458 _ ?side1 ?side2 A13.out).mono ?_); (case side1 => exact Kd.C_below HR1.out (bl2 GE454 GE457)); (case side2 => exact HC1.out); rintro e w19 ⟨rfl, hb⟩; refine ⟨_, rfl, ?_⟩; replace HO_11 := ak (Kd.R_below (by (with_reducible repeat (first | apply Kd.R_alloc | apply Kd.R_drewN | apply Kd.R_drew)); exact (Kd.R_mono (Kd.R_far (p := ⟨gb457, 3, none⟩) (Kd.R_far (p := ⟨gb457, 2, none⟩) (Kd.R_far (p := ⟨gb457, 1, none⟩) (Kd.R_far (p := ⟨gb457, 0, none⟩) (Kd.R_types HO_11.out BK457.out (by decide)) (fun _ hk => hk.2) (.string ((rd_T147 l0 x20_1).f0))) (fun _ hk => hk.2) (.int .i64 ((rd_T147 l0 x20_1).f1))) (fun _ hk => hk.2) (.int .i64 ((rd_T147 l0 x20_1).f2))) (fun _ hk => hk.2) (.bool ((rd_T147 l0 x20_1).f3))) (fun _ h_ => h_.1))) hb); replace BK454 := bf1 BK454 NB454_457 hb; replace BK457 := ak (blk_below (g := gb457) (o := .cells #[.string ((rd_T147 l0 x20_1).f0), .int .i64 ((rd_T147 l0 x20_1).f1), .int .i64 ((rd_T147 l0 x20_1).f2), .bool ((rd_T147 l0 x20_1).f3)] 147 (0, 0)) (by (with_reducible repeat (first | refine blk_drewN ?_ _ | refine blk_drew ?_ | refine blk_alloc ?_ _)); refine blk_put (cs := #[.string ((rd_T147 l0 x20_1).f0), .int .i64 ((rd_T147 l0 x20_1).f1), .int .i64 ((rd_T147 l0 x20_1).f2), .bool false]) ?_ 3 _ rfl; (with_reducible repeat (first | refine blk_drewN ?_ _ | refine blk_drew ?_ | refine blk_alloc ?_ _)); refine blk_put (cs := #[.string ((rd_T147 l0 x20_1).f0), .int .i64 ((rd_T147 l0 x20_1).f1), .int .i64 0, .bool false]) ?_ 2 _ rfl; (with_reducible repeat (first | refine blk_drewN ?_ _ | refine blk_drew ?_ | refine blk_alloc ?_ _)); refine blk_put (cs := #[.string ((rd_T147 l0 x20_1).f0), .int .i64 0, .int .i64 0, .bool false]) ?_ 1 _ rfl; (with_reducible repeat (first | refine blk_drewN ?_ _ | refine blk_drew ?_ | refine blk_alloc ?_ _)); refine blk_put (cs := #[.string (⟨#[]⟩ : ByteArray), .int .i64 0, .int .i64 0, .bool false]) ?_ 0 _ rfl; (with_reducible repeat (first | refine blk_drewN ?_ _ | refine blk_drew ?_ | refine blk_alloc ?_ _)); exact BK457.out) hb); replace HB := ak (below_step (bl2 GE454 GE457) hb); (try clear hb); (try clear hb2); (try clear hk); (try clear hi)))
             go_ret
             exact ⟨_, ew, by first | exact Kd.R_nil _ _ _ _ _ | exact Kd.N_nil _ _ _ _ _ | exact Kd.V_nil _ _ _ _ _ | exact Kd.Q_nil _ _ _ _ _ | exact Kd.S_nil _ _ _ _ _, bl2 GE454 GE457⟩
           · rw [if_neg c14] at H
             have c14b0 : decide (t458 < 0) = false := decide_eq_false c14
             clear c14
             by_cases c20 : x11_1.length < 17592186044416
             · rw [if_pos c20] at H
               have LMc20 := Aside0.mk c20
               clear c20
               obtain ⟨y459, hy459⟩ : ∃ y_ : List Int, y_ = (x11_1 ++ [t458]) := ⟨_, rfl⟩
               replace H : (impl_ClassesOf.l0 k1 l1 a2 a3 y459 l0 (l0.length : Int) (wrap64 (x20_1 + 1)) a4_0 a4_1 a4_2) = some r := by first | (rw [hy459]; with_reducible exact H) | (have H2_ := (Option.bind_some _ _).symm.trans H; rw [hy459]; with_reducible exact H2_) | (have H2_ := (Option.bind_some _ _).symm.trans H; with_reducible exact H2_) | with_reducible exact H | (rw [hy459]; exact H) | exact H
               have Ny459 := Aside0.mk hy459
               clear hy459
               have H' := Aside0.mk H
               clear H
               have p456 : 0 ≤ (x20_1 : Int) := of_decide_eq_true am
               have q456 : x20_1 < (l0.length : Int) := of_decide_eq_true am
               obtain ⟨ad456, e456, hx456_0, hx456_1, hx456_2, hx456_3⟩ := at_T147 HR0.out x20_1 p456 q456
               cases e456
               replace hx456_0 := cw hx456_0
               replace hx456_1 := cw hx456_1
               replace hx456_2 := cw hx456_2
               replace hx456_3 := cw hx456_3
               replace p456 := eq_true p456
               replace q456 := eq_true q456
               go_wp2_with (first | ((with_reducible refine gate_dst (N := 13) rfl ?_); refine bx 13 #[.string (⟨#[]⟩ : ByteArray), .int .i64 0, .int .i64 0, .bool false] 147 ?_; intro gb457 hg w21 hbox hb; replace HO_11 := ak (Kd.R_below (kr HO_11) hb); have BK457 := ak hbox; have GW457 := gs hg (bl1 GE454); have GE457 := gs hg (bl1 GE454); replace HB := ak (below_step (bl1 GE454) hb); have NB454_457 := nl hg BK454; have NB457_454 := ng hg BK454; replace BK454 := bb BK454 hb; clear hb hbox hg; have hnb22 := NB457_454.out; have hnc22 := NB454_457.out; obtain ⟨hcz23_0, hcz23_1, hcz23_2, hcz23_3, hfz23_0, hfz23_1, hfz23_2, hfz23_3⟩ := cz4 BK457; obtain ⟨hcz24_0, hcz24_1, hcz24_2, hfz24_0, hfz24_1, hfz24_2⟩ := cz3 BK454) | ((with_reducible refine gate_callee (f := 90) rfl ?_); refine gl (some 29) Try.func90 #[.agg #[.string ((rd_T147 l0 x20_1).f0), .int .i64 ((rd_T147 l0 x20_1).f1), .int .i64 ((rd_T147 l0 x20_1).f2), .bool ((rd_T147 l0 x20_1).f3)], .slice A1 l1.length c1, .string a2, .int .i64 a3, .agg #[.int .i64 a4_0, .int .i64 a4_1, .int .i64 a4_2]] ?_; (with_reducible refine (impl_ClassOf.calls k1 ((rd_T147 l0 x20_1).f0) ((rd_T147 l0 x20_1).f1) ((rd_T147 l0 x20_1).f2) ((rd_T147 l0 x20_1).f3) _ _ l1 a2 a3 a4_0 a4_1 a4_2 t458 _ ?side1 ?side2 A13.out).mono ?_); (case side1 => exact Kd.C_below HR1.out (bl2 GE454 GE457)); (case side2 => exact HC1.out); rintro e w25 ⟨rfl, hb⟩; refine ⟨_, rfl, ?_⟩; replace HO_11 := ak (Kd.R_below (by (with_reducible repeat (first | apply Kd.R_alloc | apply Kd.R_drewN | apply Kd.R_drew)); exact (Kd.R_mono (Kd.R_far (p := ⟨gb457, 3, none⟩) (Kd.R_far (p := ⟨gb457, 2, none⟩) (Kd.R_far (p := ⟨gb457, 1, none⟩) (Kd.R_far (p := ⟨gb457, 0, none⟩) (Kd.R_types HO_11.out BK457.out (by decide)) (fun _ hk => hk.2) (.string ((rd_T147 l0 x20_1).f0))) (fun _ hk => hk.2) (.int .i64 ((rd_T147 l0 x20_1).f1))) (fun _ hk => hk.2) (.int .i64 ((rd_T147 l0 x20_1).f2))) (fun _ hk => hk.2) (.bool ((rd_T147 l0 x20_1).f3))) (fun _ h_ => h_.1))) hb); replace BK454 := bf1 BK454 NB454_457 hb; replace BK457 := ak (blk_below (g := gb457) (o := .cells #[.string ((rd_T147 l0 x20_1).f0), .int .i64 ((rd_T147 l0 x20_1).f1), .int .i64 ((rd_T147 l0 x20_1).f2), .bool ((rd_T147 l0 x20_1).f3)] 147 (0, 0)) (by (with_reducible repeat (first | refine blk_drewN ?_ _ | refine blk_drew ?_ | refine blk_alloc ?_ _)); refine blk_put (cs := #[.string ((rd_T147 l0 x20_1).f0), .int .i64 ((rd_T147 l0 x20_1).f1), .int .i64 ((rd_T147 l0 x20_1).f2), .bool false]) ?_ 3 _ rfl; (with_reducible repeat (first | refine blk_drewN ?_ _ | refine blk_drew ?_ | refine blk_alloc ?_ _)); refine blk_put (cs := #[.string ((rd_T147 l0 x20_1).f0), .int .i64 ((rd_T147 l0 x20_1).f1), .int .i64 0, .bool false]) ?_ 2 _ rfl; (with_reducible repeat (first | refine blk_drewN ?_ _ | refine blk_drew ?_ | refine blk_alloc ?_ _)); refine blk_put (cs := #[.string ((rd_T147 l0 x20_1).f0), .int .i64 0, .int .i64 0, .bool false]) ?_ 1 _ rfl; (with_reducible repeat (first | refine blk_drewN ?_ _ | refine blk_drew ?_ | refine blk_alloc ?_ _)); refine blk_put (cs := #[.string (⟨#[]⟩ : ByteArray), .int .i64 0, .int .i64 0, .bool false]) ?_ 0 _ rfl; (with_reducible repeat (first | refine blk_drewN ?_ _ | refine blk_drew ?_ | refine blk_alloc ?_ _)); exact BK457.out) hb); replace HB := ak (below_step (bl2 GE454 GE457) hb); (try clear hb); (try clear hb2); (try clear hk); (try clear hi)) | ((with_reducible refine gate_builtin (b := .append) (xs := #[.tmp 32, .tmp 34]) rfl ?_); at_builtin; refine Kd.R_append (Kd.int .i64) (w0 := w) w.heap.size rfl (.tmp 32) (.tmp 34) 25 3 (.int .i64 0) 8 rfl Try.underlying25 info3 rfl (by decide) (by omega) u11 x11_1 t458 [.int .i64 t458] (fun _ => True) (fun _ => False) rfl rfl ?aP (fun _ hk => hk.elim) ?aF ?aO ?aB ?aS ?aL ?_; (case aP => exact rfl); (case aB => exact (bl2 GE454 GE457)); (case aF => exact (fun _ _ => trivial)); (case aO => exact (kr HO_11)); (case aS => exact (below_size (bl2 GE454 GE457))); (case aL => have := LMc20.out; omega); intro v460 w26 ho hb hg hat; rw [← Ny459.out] at ho; replace BK454 := ak (blk_grown (g := gb454) (o := .cells #[.int .i64 a4_0, .int .i64 a4_1, .int .i64 a4_2] 61 (0, 0)) (bk BK454) hg (Kd.R_ne HO_11.out BK454.out (by decide))); replace BK457 := ak (blk_grown (g := gb457) (o := .cells #[.string ((rd_T147 l0 x20_1).f0), .int .i64 ((rd_T147 l0 x20_1).f1), .int .i64 ((rd_T147 l0 x20_1).f2), .bool ((rd_T147 l0 x20_1).f3)] 147 (0, 0)) (bk BK457) hg (Kd.R_ne HO_11.out BK457.out (by decide))); replace HB := ak hb; have HO461 := ak ho; clear HO_11; clear ho hb hg hat))
               go_roundg k1
               case measure => have := HK1.out; omega
               case rel => exact ⟨(y459), (wrap64 (x20_1 + 1)), es, H', ⟨kp⟩, ⟨kr HO461⟩, ⟨bk BK454⟩, ⟨bl2 GE454 GE457⟩⟩
             · rw [if_neg c20] at H
               exact absurd H (by simp)
         · rw [if_neg c12] at H
           exact absurd H (by simp)
       · rw [if_neg c11] at H
         exact absurd H (by simp)
     · rw [if_neg c10] at H
       have c10b0 : decide (x20_1 < (l0.length : Int)) = false := decide_eq_false c10
       clear c10
       obtain rfl := Option.some.inj H
       go_wp2
       go_ret
       exact ⟨_, ew, kr HO_11, bl1 GE454⟩
 · replace c7 := Bool.eq_false_iff.mpr c7
   subst c7
   replace H := iF H
   obtain rfl := Option.some.inj H
   go_enter Try.func36, Try.ntmps36
   go_wp2_with (first | ((with_reducible refine gate_dst (N := 9) rfl ?_); refine bx 9 #[.int .i64 a4_0, .int .i64 a4_1, .int .i64 a4_2] 61 ?_; intro gb454 hg w27 hbox hb; have BK454 := ak hbox; have GW454 := gs hg bl; have GE454 := gs hg bl; replace HB := ak (below_step bl hb); clear hb hbox hg) | ((with_reducible refine gate_callee (f := 89) rfl ?_); refine gl (some 16) Try.func89 #[.slice A0 l0.length c0] ?_; (with_reducible refine (impl_PodsOk.calls k _ _ l0 false _ ?side1 ?side2 A6.out).mono ?_); (case side1 => exact cb HR0); (case side2 => exact HC0.out); rintro e w28 ⟨rfl, hb⟩; refine ⟨_, rfl, ?_⟩; replace BK454 := bb BK454 hb; replace HB := ak (below_step (bl1 GE454) hb); (try clear hb); (try clear hb2); (try clear hk); (try clear hi)))
   go_ret
   exact ⟨_, ew, by first | exact Kd.R_nil _ _ _ _ _ | exact Kd.N_nil _ _ _ _ _ | exact Kd.V_nil _ _ _ _ _ | exact Kd.Q_nil _ _ _ _ _ | exact Kd.S_nil _ _ _ _ _, bl1 GE454⟩

end Go.Proofs.Ytplekidnlofioaa.Q
namespace Go.Proofs.Ytplekidnlofioaa.Q
open Go.RowKit Go.Proofs.YtplekidnlofioaaW.PrintWords Go.Proofs.YtplekidnlofioaaW.PrintLast Go.Proofs.YtplekidnlofioaaW.PrintMore
attribute [local go_sem] max2_int min2_int max_two min_two max_three min_three max_four min_four   -- for this text's walks alone
set_option linter.unusedVariables false
set_option linter.unusedSimpArgs false

/-! ### impl_TallyOf: function 53 -/
mutual
def impl_TallyOf.j0 : Nat → List (S147) → List (S81) → ByteArray → Int → List Int → Bool → Int → Int → Int → Option (Int × Int × Int × Int × Bool)
 | 0, _, _, _, _, _, _, _, _, _ => none
 | k + 1, x0, x1, x2, x3, x12, x37, x872000, x872001, x872002 => if x37 = true then (some (0, 0, 0, 0, false)) else (impl_TallyOf.l0 k x1 x2 x3 x12 ([] : List Int) x0 (x0.length : Int) 0 x872000 x872001 x872002)
def impl_TallyOf.l0 : Nat → List (S81) → ByteArray → Int → List Int → List Int → List (S147) → Int → Int → Int → Int → Int → Option (Int × Int × Int × Int × Bool)
 | 0, _, _, _, _, _, _, _, _, _, _, _ => none
 | k + 1, x1, x2, x3, x12, x13, x39, x40, x41, x872000, x872001, x872002 => if x41 < x40 then (if 0 ≤ x41 then (if x41 < (x39.length : Int) then (if x41 < (x12.length : Int) then (if (rd x12 x41) = 0 then ((impl_AverageOf.f k x1 ((rd_T147 x39 x41).f0) x2 (wrap64 (x3 - x872002)) x3).bind fun bt880 => (if bt880.2 = true then (if x13.length < 17592186044416 then (impl_TallyOf.l0 k x1 x2 x3 x12 (x13 ++ [bt880.1]) x39 x40 (wrap64 (x41 + 1)) x872000 x872001 x872002) else (none)) else ((impl_LatestOf.f k x1 ((rd_T147 x39 x41).f0) x2).bind fun bt885 => (if x13.length < 17592186044416 then (impl_TallyOf.l0 k x1 x2 x3 x12 (x13 ++ [bt885.2.1]) x39 x40 (wrap64 (x41 + 1)) x872000 x872001 x872002) else (none))))) else (impl_TallyOf.l0 k x1 x2 x3 x12 x13 x39 x40 (wrap64 (x41 + 1)) x872000 x872001 x872002)) else (none)) else (none)) else (none)) else ((impl_AddValues.f k x13).bind fun bt892 => (if bt892.2 = true then (some (0, 0, 0, 0, false)) else ((impl_CountClass.f k x12 1).bind fun t894 => ((impl_CountClass.f k x12 2).bind fun t895 => (some ((x13.length : Int), t894, t895, bt892.1, true))))))
end
def impl_TallyOf.f (k : Nat) (l0 : List (S147)) (l1 : List (S81)) (a2 : ByteArray) (a3 : Int) (a4_0 : Int) (a4_1 : Int) (a4_2 : Int) : Option (Int × Int × Int × Int × Bool) := (impl_ClassesOf.f k l0 l1 a2 a3 a4_0 a4_1 a4_2).bind fun t873 => ((impl_PodsOk.f k l0).bind fun t876 => (if t876 = true then (impl_TallyOf.j0 k l0 l1 a2 a3 t873 ((t873.length : Int) != (l0.length : Int)) a4_0 a4_1 a4_2) else (impl_TallyOf.j0 k l0 l1 a2 a3 t873 true a4_0 a4_1 a4_2)))
theorem impl_TallyOf.mono_l : ∀ k, (∀ y0 y1 y2 y3 y4 y5 y6 y7 y8, LeO (impl_TallyOf.j0 k y0 y1 y2 y3 y4 y5 y6 y7 y8) (impl_TallyOf.j0 (k + 1) y0 y1 y2 y3 y4 y5 y6 y7 y8)) ∧ (∀ y0 y1 y2 y3 y4 y5 y6 y7 y8 y9 y10, LeO (impl_TallyOf.l0 k y0 y1 y2 y3 y4 y5 y6 y7 y8 y9 y10) (impl_TallyOf.l0 (k + 1) y0 y1 y2 y3 y4 y5 y6 y7 y8 y9 y10))
 | 0 => ⟨fun _ _ _ _ _ _ _ _ _ r h => by simp [impl_TallyOf.j0] at h, fun _ _ _ _ _ _ _ _ _ _ _ r h => by simp [impl_TallyOf.l0] at h⟩
 | k + 1 => by
  obtain ⟨ih0, ih1⟩ := impl_TallyOf.mono_l k
  refine ⟨?_, ?_⟩
  · intro y0 y1 y2 y3 y4 y5 y6 y7 y8
    unfold impl_TallyOf.j0
    repeat' first
    | (with_reducible exact ih0 _ _ _ _ _ _ _ _ _)
    | (with_reducible exact ih1 _ _ _ _ _ _ _ _ _ _ _)
    | (with_reducible exact impl_AddValues.mono _ _)
    | (with_reducible exact impl_AverageOf.mono _ _ _ _ _ _)
    | (with_reducible exact impl_ClassesOf.mono _ _ _ _ _ _ _ _)
    | (with_reducible exact impl_CountClass.mono _ _ _)
    | (with_reducible exact impl_LatestOf.mono _ _ _ _)
    | (with_reducible exact impl_PodsOk.mono _ _)
    | (with_reducible exact LeO.refl _)
    | (with_reducible exact LeO.none _)
    | (with_reducible refine LeO.ite ?_ ?_)
    | (with_reducible refine LeO.bind ?_ (fun _ => ?_))
    | exact ih0 _ _ _ _ _ _ _ _ _
    | exact ih1 _ _ _ _ _ _ _ _ _ _ _
    | exact impl_AddValues.mono _ _
    | exact impl_AverageOf.mono _ _ _ _ _ _
    | exact impl_ClassesOf.mono _ _ _ _ _ _ _ _
    | exact impl_CountClass.mono _ _ _
    | exact impl_LatestOf.mono _ _ _ _
    | exact impl_PodsOk.mono _ _
    | exact LeO.none _
    | refine LeO.ite ?_ ?_
    | refine LeO.bind ?_ (fun _ => ?_)
  · intro y0 y1 y2 y3 y4 y5 y6 y7 y8 y9 y10
    unfold impl_TallyOf.l0
    repeat' first
    | (with_reducible exact ih0 _ _ _ _ _ _ _ _ _)
    | (with_reducible exact ih1 _ _ _ _ _ _ _ _ _ _ _)
    | (with_reducible exact impl_AddValues.mono _ _)
    | (with_reducible exact impl_AverageOf.mono _ _ _ _ _ _)
    | (with_reducible exact impl_ClassesOf.mono _ _ _ _ _ _ _ _)
    | (with_reducible exact impl_CountClass.mono _ _ _)
    | (with_reducible exact impl_LatestOf.mono _ _ _ _)
    | (with_reducible exact impl_PodsOk.mono _ _)
    | (with_reducible exact LeO.refl _)
    | (with_reducible exact LeO.none _)
    | (with_reducible refine LeO.ite ?_ ?_)
    | (with_reducible refine LeO.bind ?_ (fun _ => ?_))
    | exact ih0 _ _ _ _ _ _ _ _ _
    | exact ih1 _ _ _ _ _ _ _ _ _ _ _
    | exact impl_AddValues.mono _ _
    | exact impl_AverageOf.mono _ _ _ _ _ _
    | exact impl_ClassesOf.mono _ _ _ _ _ _ _ _
    | exact impl_CountClass.mono _ _ _
    | exact impl_LatestOf.mono _ _ _ _
    | exact impl_PodsOk.mono _ _
    | exact LeO.none _
    | refine LeO.ite ?_ ?_
    | refine LeO.bind ?_ (fun _ => ?_)
theorem impl_TallyOf.mono : ∀ a0 a1 a2 a3 a4 a5 a6 k, LeO (impl_TallyOf.f k a0 a1 a2 a3 a4 a5 a6) (impl_TallyOf.f (k + 1) a0 a1 a2 a3 a4 a5 a6) := by
 intro a0 a1 a2 a3 a4 a5 a6 k
 obtain ⟨ih0, ih1⟩ := impl_TallyOf.mono_l k
 unfold impl_TallyOf.f
 repeat' first
  | (with_reducible exact ih0 _ _ _ _ _ _ _ _ _)
  | (with_reducible exact ih1 _ _ _ _ _ _ _ _ _ _ _)
  | (with_reducible exact impl_AddValues.mono _ _)
  | (with_reducible exact impl_AverageOf.mono _ _ _ _ _ _)
  | (with_reducible exact impl_ClassesOf.mono _ _ _ _ _ _ _ _)
  | (with_reducible exact impl_CountClass.mono _ _ _)
  | (with_reducible exact impl_LatestOf.mono _ _ _ _)
  | (with_reducible exact impl_PodsOk.mono _ _)
  | (with_reducible exact LeO.refl _)
  | (with_reducible exact LeO.none _)
  | (with_reducible refine LeO.ite ?_ ?_)
  | (with_reducible refine LeO.bind ?_ (fun _ => ?_))
  | exact ih0 _ _ _ _ _ _ _ _ _
  | exact ih1 _ _ _ _ _ _ _ _ _ _ _
  | exact impl_AddValues.mono _ _
  | exact impl_AverageOf.mono _ _ _ _ _ _
  | exact impl_ClassesOf.mono _ _ _ _ _ _ _ _
  | exact impl_CountClass.mono _ _ _
  | exact impl_LatestOf.mono _ _ _ _
  | exact impl_PodsOk.mono _ _
  | exact LeO.none _
  | refine LeO.ite ?_ ?_
  | refine LeO.bind ?_ (fun _ => ?_)
set_option maxHeartbeats 8000000 in
set_option maxRecDepth 100000 in
theorem impl_TallyOf.calls (k : Nat) (A0 : Option Addr) (c0 : Nat) (l0 : List (S147)) (A1 : Option Addr) (c1 : Nat) (l1 : List (S81)) (a2 : ByteArray) (a3 : Int) (a4_0 : Int) (a4_1 : Int) (a4_2 : Int) (r1 : Int) (r2 : Int) (r3 : Int) (r4 : Int) (r5 : Bool) (w : World) (hr0 : Kd.C k147 w A0 l0.length l0) (hc0 : l0.length ≤ c0) (hr1 : Kd.C k81 w A1 l1.length l1) (hc1 : l1.length ≤ c1) (h : impl_TallyOf.f k l0 l1 a2 a3 a4_0 a4_1 a4_2 = some (r1, r2, r3, r4, r5)) :
 Calls Try.prog 53 #[.slice A0 l0.length c0, .slice A1 l1.length c1, .string a2, .int .i64 a3, .agg #[.int .i64 a4_0, .int .i64 a4_1, .int .i64 a4_2]] w fun e w' => e = .returned (.tuple #[.agg #[.int .i64 r1, .int .i64 r2, .int .i64 r3, .int .i64 r4], .bool r5]) ∧ Below w.heap.size w w' := by
 have hu61 := Try.underlying61
 have hu83 := Try.underlying83
 have hu147 := Try.underlying147
 have hu37 := Try.underlying37
 have HR0 := Aside0.mk hr0
 have HC0 := Aside0.mk hc0
 clear hr0 hc0
 have HR1 := Aside0.mk hr1
 have HC1 := Aside0.mk hc1
 clear hr1 hc1
 have HB := Aside0.mk (Below.refl w.heap.size w)
 have H : ((impl_ClassesOf.f k l0 l1 a2 a3 a4_0 a4_1 a4_2).bind fun t873 => ((impl_PodsOk.f k l0).bind fun t876 => (if t876 = true then (impl_TallyOf.j0 k l0 l1 a2 a3 t873 ((t873.length : Int) != (l0.length : Int)) a4_0 a4_1 a4_2) else (impl_TallyOf.j0 k l0 l1 a2 a3 t873 true a4_0 a4_1 a4_2)))) = some (r1, r2, r3, r4, r5) := h
 clear h
 obtain ⟨t873, A60, H⟩ := bo H
 have A6 := Aside0.mk A60
 clear A60
 have HC7 := Aside0.mk H
 clear H
 go_enter Try.func53, Try.ntmps53
 go_upto_region 2 with (first | ((with_reducible refine gate_dst (N := 9) rfl ?_); (try (refine gate_guard (by rfl) ?_; dsimp only)); refine bx 9 #[.int .i64 a4_0, .int .i64 a4_1, .int .i64 a4_2] 61 ?_; intro gb871 hg w8 hbox hb; have BK871 := ak hbox; have GW871 := gs hg bl; have GE871 := gs hg bl; replace HB := ak (below_step bl hb); clear hb hbox hg) | ((with_reducible refine gate_dst (N := 10) rfl ?_); (try (refine gate_guard (by rfl) ?_; dsimp only)); refine bx 10 #[.int .i64 0, .int .i64 0, .int .i64 0, .int .i64 0] 83 ?_; intro gb872 hg w9 hbox hb; have BK872 := ak hbox; have GW872 := gs hg (bl1 GE871); have GE872 := gs hg (bl1 GE871); replace HB := ak (below_step (bl1 GE871) hb); have NB871_872 := nl hg BK871; have NB872_871 := ng hg BK871; replace BK871 := bb BK871 hb; clear hb hbox hg; have hnb10 := NB871_872.out; have hnc10 := NB872_871.out; obtain ⟨hcz11_0, hcz11_1, hcz11_2, hfz11_0, hfz11_1, hfz11_2⟩ := cz3 BK871) | ((with_reducible refine gate_callee (f := 36) rfl ?_); refine gl (some 27) Try.func36 #[.slice A0 l0.length c0, .slice A1 l1.length c1, .string a2, .int .i64 a3, .agg #[.int .i64 a4_0, .int .i64 a4_1, .int .i64 a4_2]] ?_; (with_reducible refine (impl_ClassesOf.calls k _ _ l0 _ _ l1 a2 a3 a4_0 a4_1 a4_2 t873 _ ?side1 ?side2 ?side3 ?side4 A6.out).mono ?_); (case side1 => exact cb HR0); (case side2 => exact HC0.out); (case side3 => exact cb HR1); (case side4 => exact HC1.out); rintro e w12 ⟨v874, rfl, ho0, hb⟩; refine ⟨_, rfl, ?_⟩; have HO875 := ak (Kd.R_lower ho0 (below_size (bl2 GE871 GE872))); replace BK871 := bb BK871 hb; replace BK872 := bb BK872 hb; replace HB := ak (below_step (bl2 GE871 GE872) hb); (try clear hb); (try clear hb2); (try clear hk); (try clear hi); (try clear ho0)))
 (try simp only [Act.put, List.setIfInBounds_toArray, List.set_cons_zero, List.set_cons_succ])
 go_cut [37] (fun v37 wc => ∃ (kq : Nat) (x37_6 : Bool), v37 = .bool x37_6 ∧ Aside0 (impl_TallyOf.j0 kq l0 l1 a2 a3 t873 x37_6 a4_0 a4_1 a4_2 = some (r1, r2, r3, r4, r5)) ∧ Aside0 (kq ≤ k) ∧ Aside0 (Kd.R (Kd.int .i64) 3 wc w.heap.size (fun _ => True) v874 t873) ∧ Aside0 (wc.heap[gb871]? = some (.cells #[.int .i64 a4_0, .int .i64 a4_1, .int .i64 a4_2] 61 (0, 0))) ∧ Aside0 (wc.heap[gb872]? = some (.cells #[.int .i64 0, .int .i64 0, .int .i64 0, .int .i64 0] 83 (0, 0))) ∧ Aside0 (Below w.heap.size w wc))
 case first =>
  have H := HC7.out
  clear HC7
  obtain ⟨t876, A130, H⟩ := bo H
  have A13 := Aside0.mk A130
  clear A130
  by_cases c14 : t876 = true
  · subst c14
    replace H := iT H
    have H' := Aside0.mk H
    clear H
    go_wp2_with (first | ((with_reducible refine gate_callee (f := 89) rfl ?_); refine gl (some 29) Try.func89 #[.slice A0 l0.length c0] ?_; (with_reducible refine (impl_PodsOk.calls k _ _ l0 true _ ?side1 ?side2 A13.out).mono ?_); (case side1 => exact cb HR0); (case side2 => exact HC0.out); rintro e w15 ⟨rfl, hb⟩; refine ⟨_, rfl, ?_⟩; replace HO875 := ak (Kd.R_below (kr HO875) hb); replace BK871 := bb BK871 hb; replace BK872 := bb BK872 hb; replace HB := ak (below_step (bl2 GE871 GE872) hb); (try clear hb); (try clear hb2); (try clear hk); (try clear hi); obtain ⟨Ao16, co16, eo16⟩ := Kd.R_slice HO875.out; subst eo16))
    go_meet
    case rel => exact ⟨_, (((t873.length : Int) != (l0.length : Int))), es, H', ⟨by first | omega | exact Nat.le_refl _⟩, ⟨kr HO875⟩, ⟨bk BK871⟩, ⟨bk BK872⟩, ⟨bl2 GE871 GE872⟩⟩
  · replace c14 := Bool.eq_false_iff.mpr c14
    subst c14
    replace H := iF H
    have H' := Aside0.mk H
    clear H
    go_wp2_with (first | ((with_reducible refine gate_callee (f := 89) rfl ?_); refine gl (some 29) Try.func89 #[.slice A0 l0.length c0] ?_; (with_reducible refine (impl_PodsOk.calls k _ _ l0 false _ ?side1 ?side2 A13.out).mono ?_); (case side1 => exact cb HR0); (case side2 => exact HC0.out); rintro e w17 ⟨rfl, hb⟩; refine ⟨_, rfl, ?_⟩; replace HO875 := ak (Kd.R_below (kr HO875) hb); replace BK871 := bb BK871 hb; replace BK872 := bb BK872 hb; replace HB := ak (below_step (bl2 GE871 GE872) hb); (try clear hb); (try clear hb2); (try clear hk); (try clear hi)))
    go_meet
    case rel => exact ⟨_, (true), es, H', ⟨by first | omega | exact Nat.le_refl _⟩, ⟨kr HO875⟩, ⟨bk BK871⟩, ⟨bk BK872⟩, ⟨bl2 GE871 GE872⟩⟩
 case rest =>
  clear HC7
  try clear c1
  try clear p2
  try clear c3
  try clear c5
  try clear c8
  try clear c10
  try clear c14
  try clear hcz11_0
  try clear hcz11_1
  try clear hcz11_2
  try clear hfz11_0
  try clear hfz11_1
  try clear hfz11_2
  obtain ⟨kq, x37_6, rfl, HA, HJ6, HO_12, BK871, BK872, HB⟩ := hcut
  cases kq with
  | zero => exact absurd HA.out (by simp [impl_TallyOf.j0])
  | succ kj6 =>
   have H := HA.out
   clear HA
   simp only [impl_TallyOf.j0] at H
   by_cases c18 : x37_6 = true
   · subst c18
     replace H := iT H
     simp only [Option.some.injEq, Prod.mk.injEq] at H
     obtain ⟨rfl, rfl, rfl, rfl, rfl⟩ := H
     have hnb19 := NB872_871.out
     have hnc19 := NB871_872.out
     obtain ⟨hcz20_0, hcz20_1, hcz20_2, hcz20_3, hfz20_0, hfz20_1, hfz20_2, hfz20_3⟩ := cz4 BK872
     go_wp2
     refine bodyPost_ret (results_ct rfl _ _ gb872 83 #[.int .i64 0, .int .i64 0, .int .i64 0, .int .i64 0] (0, 0) _ rfl (by (with_reducible repeat (first | refine blk_drewN ?_ _ | refine blk_drew ?_ | refine blk_alloc ?_ _)); refine blk_put (cs := #[.int .i64 0, .int .i64 0, .int .i64 0, .int .i64 0]) ?_ 3 _ rfl; (with_reducible repeat (first | refine blk_drewN ?_ _ | refine blk_drew ?_ | refine blk_alloc ?_ _)); refine blk_put (cs := #[.int .i64 0, .int .i64 0, .int .i64 0, .int .i64 0]) ?_ 2 _ rfl; (with_reducible repeat (first | refine blk_drewN ?_ _ | refine blk_drew ?_ | refine blk_alloc ?_ _)); refine blk_put (cs := #[.int .i64 0, .int .i64 0, .int .i64 0, .int .i64 0]) ?_ 1 _ rfl; (with_reducible repeat (first | refine blk_drewN ?_ _ | refine blk_drew ?_ | refine blk_alloc ?_ _)); refine blk_put (cs := #[.int .i64 0, .int .i64 0, .int .i64 0, .int .i64 0]) ?_ 0 _ rfl; (with_reducible repeat (first | refine blk_drewN ?_ _ | refine blk_drew ?_ | refine blk_alloc ?_ _)); exact BK872.out) Try.underlying83 rfl (by kernel_rfl)) rfl ?_
     exact ⟨ew, bl2 GE871 GE872⟩
   · replace c18 := Bool.eq_false_iff.mpr c18
     subst c18
     replace H := iF H
     have H' := Aside0.mk H
     clear H
     go_wp2
     go_loopg [13, 41] kj6 (fun kq v13 v41 w' => ∃ (x13_2 : List Int) (x41_2 : Int), v41 = .int .i64 x41_2 ∧ Aside0 (impl_TallyOf.l0 kq l1 a2 a3 t873 x13_2 l0 (l0.length : Int) x41_2 a4_0 a4_1 a4_2 = some (r1, r2, r3, r4, r5)) ∧ Aside0 (kq ≤ kj6) ∧ Aside0 (Kd.R (Kd.int .i64) 3 w' w.heap.size (fun k_ => some k_ ≠ (v13 : Value).ownBlock) v874 t873) ∧ Aside0 (Kd.R (Kd.int .i64) 3 w' w.heap.size (fun k_ => some k_ ≠ (v874 : Value).ownBlock) v13 x13_2) ∧ Aside0 (w'.heap[gb871]? = some (.cells #[.int .i64 a4_0, .int .i64 a4_1, .int .i64 a4_2] 61 (0, 0))) ∧ Aside0 (w'.heap[gb872]? = some (.cells #[.int .i64 0, .int .i64 0, .int .i64 0, .int .i64 0] 83 (0, 0))) ∧ Aside0 (Below w.heap.size w w'))
     case atStart => exact ⟨(([] : List Int)), (0), es, H', ⟨Nat.le_refl _⟩, ⟨by (with_reducible repeat (first | apply Kd.R_alloc | apply Kd.R_drewN | apply Kd.R_drew)); exact Kd.R_mono HO_12.out (fun _ hk => (by simp [Value.ownBlock]))⟩, ⟨by first | exact Kd.R_nil _ _ _ _ _ | exact Kd.N_nil _ _ _ _ _ | exact Kd.V_nil _ _ _ _ _ | exact Kd.Q_nil _ _ _ _ _ | exact Kd.S_nil _ _ _ _ _⟩, ⟨bk BK871⟩, ⟨bk BK872⟩, ⟨bl2 GE871 GE872⟩⟩
     case round =>
      clear H'
      try clear c1
      try clear p2
      try clear c3
      try clear c5
      try clear c8
      try clear c10
      try clear c14
      try clear c18
      try clear c19
      try clear hcz11_0
      try clear hcz11_1
      try clear hcz11_2
      try clear hcz20_0
      try clear hcz20_1
      try clear hcz20_2
      try clear hcz20_3
      try clear hfz11_0
      try clear hfz11_1
      try clear hfz11_2
      try clear hfz20_0
      try clear hfz20_1
      try clear hfz20_2
      try clear hfz20_3
      try clear p2
      obtain ⟨x13_2, x41_2, rfl, HA, HK2, HO_12, HO_13, BK871, BK872, HB⟩ := hrel
      cases gk with
      | zero => exact absurd HA.out (by simp [impl_TallyOf.l0])
      | succ k2 =>
       have H := HA.out
       clear HA
       simp only [impl_TallyOf.l0] at H
       by_cases c21 : x41_2 < (l0.length : Int)
       · rw [if_pos c21] at H
         have c21b0 : decide (x41_2 < (l0.length : Int)) = true := decide_eq_true c21
         clear c21
         by_cases c22 : 0 ≤ x41_2
         · rw [if_pos c22] at H
           have c22b0 : decide (0 ≤ x41_2) = true := decide_eq_true c22
           clear c22
           by_cases c23 : x41_2 < (l0.length : Int)
           · rw [if_pos c23] at H
             have c23b0 : decide (x41_2 < (l0.length : Int)) = true := decide_eq_true c23
             clear c23
             by_cases c24 : x41_2 < (t873.length : Int)
             · rw [if_pos c24] at H
               have c24b0 : decide (x41_2 < (t873.length : Int)) = true := decide_eq_true c24
               clear c24
               by_cases c25 : (rd t873 x41_2) = 0
               · rw [if_pos c25] at H
                 have c25b0 : ((rd t873 x41_2) == 0) = true := beq_iff_eq.mpr c25
                 have c25b1 : ((rd t873 x41_2) != 0) = false := bne_eq_false_iff_eq.mpr c25
                 clear c25
                 replace H := Option.bind_eq_some_iff.mp H
                 obtain ⟨⟨t880, t881⟩, A260, H⟩ := H
                 replace H : (if t881 = true then (if x13_2.length < 17592186044416 then (impl_TallyOf.l0 k2 l1 a2 a3 t873 (x13_2 ++ [t880]) l0 (l0.length : Int) (wrap64 (x41_2 + 1)) a4_0 a4_1 a4_2) else (none)) else ((impl_LatestOf.f k2 l1 ((rd_T147 l0 x41_2).f0) a2).bind fun bt885 => (if x13_2.length < 17592186044416 then (impl_TallyOf.l0 k2 l1 a2 a3 t873 (x13_2 ++ [bt885.2.1]) l0 (l0.length : Int) (wrap64 (x41_2 + 1)) a4_0 a4_1 a4_2) else (none)))) = some (r1, r2, r3, r4, r5) := H
                 have A26 := Aside0.mk A260
                 clear A260
                 by_cases c27 : t881 = true
                 · subst c27
                   replace H := iT H
                   by_cases c28 : x13_2.length < 17592186044416
                   · rw [if_pos c28] at H
                     have LMc28 := Aside0.mk c28
                     clear c28
                     obtain ⟨y882, hy882⟩ : ∃ y_ : List Int, y_ = (x13_2 ++ [t880]) := ⟨_, rfl⟩
                     replace H : (impl_TallyOf.l0 k2 l1 a2 a3 t873 y882 l0 (l0.length : Int) (wrap64 (x41_2 + 1)) a4_0 a4_1 a4_2) = some (r1, r2, r3, r4, r5) := by first | (rw [hy882]; with_reducible exact H) | (have H2_ := (Option.bind_some _ _).symm.trans H; rw [hy882]; with_reducible exact H2_) | (have H2_ := (Option.bind_some _ _).symm.trans H; with_reducible exact H2_) | with_reducible exact H | (rw [hy882]; exact H) | exact H
                     have Ny882 := Aside0.mk hy882
                     clear hy882
                     have H' := Aside0.mk H
                     clear H
                     have p877 : 0 ≤ (x41_2 : Int) := of_decide_eq_true am
                     have q877 : x41_2 < (l0.length : Int) := of_decide_eq_true am
                     obtain ⟨ad877, e877, hx877_0, hx877_1, hx877_2, hx877_3⟩ := at_T147 HR0.out x41_2 p877 q877
                     cases e877
                     replace hx877_0 := cw hx877_0
                     replace hx877_1 := cw hx877_1
                     replace hx877_2 := cw hx877_2
                     replace hx877_3 := cw hx877_3
                     replace p877 := eq_true p877
                     replace q877 := eq_true q877
                     go_wp2_with (first | ((with_reducible refine gate_dst (N := 15) rfl ?_); (try (refine gate_guard (by rfl) ?_; dsimp only)); refine bx 15 #[.string (⟨#[]⟩ : ByteArray), .int .i64 0, .int .i64 0, .bool false] 147 ?_; intro gb878 hg w29 hbox hb; replace HO_12 := ak (Kd.R_below (kr HO_12) hb); replace HO_13 := ak (Kd.R_below (kr HO_13) hb); have BK878 := ak hbox; have GW878 := gs hg (bl2 GE871 GE872); have GE878 := gs hg (bl2 GE871 GE872); replace HB := ak (below_step (bl2 GE871 GE872) hb); have NB871_878 := nl hg BK871; have NB878_871 := ng hg BK871; replace BK871 := bb BK871 hb; have NB872_878 := nl hg BK872; have NB878_872 := ng hg BK872; replace BK872 := bb BK872 hb; clear hb hbox hg; have hnb30 := NB878_871.out; have hnc30 := NB871_878.out; have hnb31 := NB878_872.out; have hnc31 := NB872_878.out; obtain ⟨hcz32_0, hcz32_1, hcz32_2, hcz32_3, hfz32_0, hfz32_1, hfz32_2, hfz32_3⟩ := cz4 BK878; obtain ⟨Ao33, co33, eo33⟩ := Kd.R_slice HO_12.out; subst eo33; have p879 : 0 ≤ (x41_2 : Int) := of_decide_eq_true am; have q879 : x41_2 < (t873.length : Int) := of_decide_eq_true am; obtain ⟨ad879, e879, hx879_0⟩ := Kd.at_int (Kd.R_reads' HO_12.out).2.2 x41_2 p879 q879; cases e879; have hn879_0 : ad879.block ≠ gb878 := Kd.own_blk (Kd.R_ne HO_12.out BK878.out (by decide)); have hn879_1 : ad879.block ≠ gb878 := Kd.own_blk (Kd.R_ne HO_12.out BK878.out (by decide)); have hn879_2 : ad879.block ≠ gb878 := Kd.own_blk (Kd.R_ne HO_12.out BK878.out (by decide)); have hn879_3 : ad879.block ≠ gb878 := Kd.own_blk (Kd.R_ne HO_12.out BK878.out (by decide)); replace hx879_0 := (cell_far (p := ⟨gb878, 0, none⟩) (by first | (rw [add_block]; exact hn879_0) | (show (Addr.add _ _).block ≠ _; rw [add_block]; exact hn879_0) | exact hn879_0) (.string ((rd_T147 l0 x41_2).f0))).trans hx879_0; replace hx879_0 := (cell_far (p := ⟨gb878, 1, none⟩) (by first | (rw [add_block]; exact hn879_1) | (show (Addr.add _ _).block ≠ _; rw [add_block]; exact hn879_1) | exact hn879_1) (.int .i64 ((rd_T147 l0 x41_2).f1))).trans hx879_0; replace hx879_0 := (cell_far (p := ⟨gb878, 2, none⟩) (by first | (rw [add_block]; exact hn879_2) | (show (Addr.add _ _).block ≠ _; rw [add_block]; exact hn879_2) | exact hn879_2) (.int .i64 ((rd_T147 l0 x41_2).f2))).trans hx879_0; replace hx879_0 := (cell_far (p := ⟨gb878, 3, none⟩) (by first | (rw [add_block]; exact hn879_3) | (show (Addr.add _ _).block ≠ _; rw [add_block]; exact hn879_3) | exact hn879_3) (.bool ((rd_T147 l0 x41_2).f3))).trans hx879_0; clear hn879_0; clear hn879_1; clear hn879_2; clear hn879_3; replace p879 := eq_true p879; replace q879 := eq_true q879; have hnb34 := NB871_872.out; have hnc34 := NB872_871.out; obtain ⟨hcz35_0, hcz35_1, hcz35_2, hfz35_0, hfz35_1, hfz35_2⟩ := cz3 BK871) | ((with_reducible refine gate_callee (f := 105) rfl ?_); refine gl (some 61) Try.func105 #[.slice A1 l1.length c1, .string ((rd_T147 l0 x41_2).f0), .string a2, .int .i64 (wrap64 (a3 - a4_2)), .int .i64 a3] ?_; (with_reducible refine (impl_AverageOf.calls k2 _ _ l1 ((rd_T147 l0 x41_2).f0) a2 (wrap64 (a3 - a4_2)) a3 t880 true _ ?side1 ?side2 A26.out).mono ?_); (case side1 => exact Kd.C_below HR1.out (bl3 GE871 GE872 GE878)); (case side2 => exact HC1.out); rintro e w36 ⟨rfl, hb⟩; refine ⟨_, rfl, ?_⟩; replace HO_12 := ak (Kd.R_below (by (with_reducible repeat (first | apply Kd.R_alloc | apply Kd.R_drewN | apply Kd.R_drew)); exact (Kd.R_mono (Kd.R_far (p := ⟨gb878, 3, none⟩) (Kd.R_far (p := ⟨gb878, 2, none⟩) (Kd.R_far (p := ⟨gb878, 1, none⟩) (Kd.R_far (p := ⟨gb878, 0, none⟩) (Kd.R_types HO_12.out BK878.out (by decide)) (fun _ hk => hk.2) (.string ((rd_T147 l0 x41_2).f0))) (fun _ hk => hk.2) (.int .i64 ((rd_T147 l0 x41_2).f1))) (fun _ hk => hk.2) (.int .i64 ((rd_T147 l0 x41_2).f2))) (fun _ hk => hk.2) (.bool ((rd_T147 l0 x41_2).f3))) (fun _ h_ => h_.1))) hb); replace HO_13 := ak (Kd.R_below (by (with_reducible repeat (first | apply Kd.R_alloc | apply Kd.R_drewN | apply Kd.R_drew)); exact (Kd.R_mono (Kd.R_far (p := ⟨gb878, 3, none⟩) (Kd.R_far (p := ⟨gb878, 2, none⟩) (Kd.R_far (p := ⟨gb878, 1, none⟩) (Kd.R_far (p := ⟨gb878, 0, none⟩) (Kd.R_types HO_13.out BK878.out (by decide)) (fun _ hk => hk.2) (.string ((rd_T147 l0 x41_2).f0))) (fun _ hk => hk.2) (.int .i64 ((rd_T147 l0 x41_2).f1))) (fun _ hk => hk.2) (.int .i64 ((rd_T147 l0 x41_2).f2))) (fun _ hk => hk.2) (.bool ((rd_T147 l0 x41_2).f3))) (fun _ h_ => h_.1))) hb); replace BK871 := bf1 BK871 NB871_878 hb; replace BK872 := bf1 BK872 NB872_878 hb; replace BK878 := ak (blk_below (g := gb878) (o := .cells #[.string ((rd_T147 l0 x41_2).f0), .int .i64 ((rd_T147 l0 x41_2).f1), .int .i64 ((rd_T147 l0 x41_2).f2), .bool ((rd_T147 l0 x41_2).f3)] 147 (0, 0)) (by (with_reducible repeat (first | refine blk_drewN ?_ _ | refine blk_drew ?_ | refine blk_alloc ?_ _)); refine blk_put (cs := #[.string ((rd_T147 l0 x41_2).f0), .int .i64 ((rd_T147 l0 x41_2).f1), .int .i64 ((rd_T147 l0 x41_2).f2), .bool false]) ?_ 3 _ rfl; (with_reducible repeat (first | refine blk_drewN ?_ _ | refine blk_drew ?_ | refine blk_alloc ?_ _)); refine blk_put (cs := #[.string ((rd_T147 l0 x41_2).f0), .int .i64 ((rd_T147 l0 x41_2).f1), .int .i64 0, .bool false]) ?_ 2 _ rfl; (with_reducible repeat (first | refine blk_drewN ?_ _ | refine blk_drew ?_ | refine blk_alloc ?_ _)); refine blk_put (cs := #[.string ((rd_T147 l0 x41_2).f0), .int .i64 0, .int .i64 0, .bool false]) ?_ 1 _ rfl; (with_reducible repeat (first | refine blk_drewN ?_ _ | refine blk_drew ?_ | refine blk_alloc ?_ _)); refine blk_put (cs := #[.string (⟨#[]⟩ : ByteArray), .int .i64 0, .int .i64 0, .bool false]) ?_ 0 _ rfl; (with_reducible repeat (first | refine blk_drewN ?_ _ | refine blk_drew ?_ | refine blk_alloc ?_ _)); exact BK878.out) hb); replace HB := ak (below_step (bl3 GE871 GE872 GE878) hb); (try clear hb); (try clear hb2); (try clear hk); (try clear hi)) | ((with_reducible refine gate_builtin (b := .append) (xs := #[.tmp 76, .tmp 78]) rfl ?_); (try (refine gate_guard (by rfl) ?_; dsimp only)); at_builtin; refine Kd.R_append (Kd.int .i64) (w0 := w) w.heap.size rfl (.tmp 76) (.tmp 78) 25 3 (.int .i64 0) 8 rfl Try.underlying25 info3 rfl (by decide) (by omega) u13 x13_2 t880 [.int .i64 t880] (fun k_ => some k_ ≠ (.slice (some ad879) t873.length co33 : Value).ownBlock) (fun _ => False) rfl rfl ?aP (fun _ hk => hk.elim) ?aF ?aO ?aB ?aS ?aL ?_; (case aP => exact rfl); (case aB => exact (bl3 GE871 GE872 GE878)); (case aF => exact (fun k_ hk => Kd.fresh' (Kd.R_lt (kr HO_12)) k_ hk)); (case aO => exact (kr HO_13)); (case aS => exact (below_size (bl3 GE871 GE872 GE878))); (case aL => have := LMc28.out; omega); intro v883 w37 ho hb hg hat; rw [← Ny882.out] at ho; replace HO_12 := ak (Kd.R_after (ok := (fun _ => True)) (by (with_reducible repeat (first | apply Kd.R_alloc | apply Kd.R_drewN | apply Kd.R_drew)); exact Kd.R_mono HO_12.out (fun _ hk => ⟨trivial, hk⟩)) hg hat); replace BK871 := ak (blk_grown (g := gb871) (o := .cells #[.int .i64 a4_0, .int .i64 a4_1, .int .i64 a4_2] 61 (0, 0)) (bk BK871) hg (Kd.R_ne HO_13.out BK871.out (by decide))); replace BK872 := ak (blk_grown (g := gb872) (o := .cells #[.int .i64 0, .int .i64 0, .int .i64 0, .int .i64 0] 83 (0, 0)) (bk BK872) hg (Kd.R_ne HO_13.out BK872.out (by decide))); replace BK878 := ak (blk_grown (g := gb878) (o := .cells #[.string ((rd_T147 l0 x41_2).f0), .int .i64 ((rd_T147 l0 x41_2).f1), .int .i64 ((rd_T147 l0 x41_2).f2), .bool ((rd_T147 l0 x41_2).f3)] 147 (0, 0)) (bk BK878) hg (Kd.R_ne HO_13.out BK878.out (by decide))); replace HB := ak hb; have HO884 := ak ho; clear HO_13; clear ho hb hg hat))
                     go_roundg k2
                     case measure => have := HJ6.out; have := HK2.out; omega
                     case rel => exact ⟨(y882), (wrap64 (x41_2 + 1)), es, H', ⟨by have := HJ6.out; have := HK2.out; omega⟩, ⟨by (with_reducible repeat (first | apply Kd.R_alloc | apply Kd.R_drewN | apply Kd.R_drew)); exact Kd.R_mono HO_12.out (fun _ hk => hk.2)⟩, ⟨kr HO884⟩, ⟨bk BK871⟩, ⟨bk BK872⟩, ⟨bl3 GE871 GE872 GE878⟩⟩
                   · rw [if_neg c28] at H
                     exact absurd H (by simp)
                 · replace c27 := Bool.eq_false_iff.mpr c27
                   subst c27
                   replace H := iF H
                   replace H := Option.bind_eq_some_iff.mp H
                   obtain ⟨⟨t885, t886, t887⟩, A380, H⟩ := H
                   replace H : (if x13_2.length < 17592186044416 then (impl_TallyOf.l0 k2 l1 a2 a3 t873 (x13_2 ++ [t886]) l0 (l0.length : Int) (wrap64 (x41_2 + 1)) a4_0 a4_1 a4_2) else (none)) = some (r1, r2, r3, r4, r5) := H
                   have A38 := Aside0.mk A380
                   clear A380
                   by_cases c39 : x13_2.length < 17592186044416
                   · rw [if_pos c39] at H
                     have LMc39 := Aside0.mk c39
                     clear c39
                     obtain ⟨y889, hy889⟩ : ∃ y_ : List Int, y_ = (x13_2 ++ [t886]) := ⟨_, rfl⟩
                     replace H : (impl_TallyOf.l0 k2 l1 a2 a3 t873 y889 l0 (l0.length : Int) (wrap64 (x41_2 + 1)) a4_0 a4_1 a4_2) = some (r1, r2, r3, r4, r5) := by first | (rw [hy889]; with_reducible exact H) | (have H2_ := (Option.bind_some _ _).symm.trans H; rw [hy889]; with_reducible exact H2_) | (have H2_ := (Option.bind_some _ _).symm.trans H; with_reducible exact H2_) | with_reducible exact H | (rw [hy889]; exact H) | exact H
                     have Ny889 := Aside0.mk hy889
                     clear hy889
                     have H' := Aside0.mk H
                     clear H
                     have p877 : 0 ≤ (x41_2 : Int) := of_decide_eq_true am
                     have q877 : x41_2 < (l0.length : Int) := of_decide_eq_true am
                     obtain ⟨ad877, e877, hx877_0, hx877_1, hx877_2, hx877_3⟩ := at_T147 HR0.out x41_2 p877 q877
                     cases e877
                     replace hx877_0 := cw hx877_0
                     replace hx877_1 := cw hx877_1
                     replace hx877_2 := cw hx877_2
                     replace hx877_3 := cw hx877_3
                     replace p877 := eq_true p877
                     replace q877 := eq_true q877
                     go_wp2_with (first | ((with_reducible refine gate_dst (N := 15) rfl ?_); (try (refine gate_guard (by rfl) ?_; dsimp only)); refine bx 15 #[.string (⟨#[]⟩ : ByteArray), .int .i64 0, .int .i64 0, .bool false] 147 ?_; intro gb878 hg w40 hbox hb; replace HO_12 := ak (Kd.R_below (kr HO_12) hb); replace HO_13 := ak (Kd.R_below (kr HO_13) hb); have BK878 := ak hbox; have GW878 := gs hg (bl2 GE871 GE872); have GE878 := gs hg (bl2 GE871 GE872); replace HB := ak (below_step (bl2 GE871 GE872) hb); have NB871_878 := nl hg BK871; have NB878_871 := ng hg BK871; replace BK871 := bb BK871 hb; have NB872_878 := nl hg BK872; have NB878_872 := ng hg BK872; replace BK872 := bb BK872 hb; clear hb hbox hg; have hnb41 := NB878_871.out; have hnc41 := NB871_878.out; have hnb42 := NB878_872.out; have hnc42 := NB872_878.out; obtain ⟨hcz43_0, hcz43_1, hcz43_2, hcz43_3, hfz43_0, hfz43_1, hfz43_2, hfz43_3⟩ := cz4 BK878; obtain ⟨Ao44, co44, eo44⟩ := Kd.R_slice HO_12.out; subst eo44; have p879 : 0 ≤ (x41_2 : Int) := of_decide_eq_true am; have q879 : x41_2 < (t873.length : Int) := of_decide_eq_true am; obtain ⟨ad879, e879, hx879_0⟩ := Kd.at_int (Kd.R_reads' HO_12.out).2.2 x41_2 p879 q879; cases e879; have hn879_0 : ad879.block ≠ gb878 := Kd.own_blk (Kd.R_ne HO_12.out BK878.out (by decide)); have hn879_1 : ad879.block ≠ gb878 := Kd.own_blk (Kd.R_ne HO_12.out BK878.out (by decide)); have hn879_2 : ad879.block ≠ gb878 := Kd.own_blk (Kd.R_ne HO_12.out BK878.out (by decide)); have hn879_3 : ad879.block ≠ gb878 := Kd.own_blk (Kd.R_ne HO_12.out BK878.out (by decide)); replace hx879_0 := (cell_far (p := ⟨gb878, 0, none⟩) (by first | (rw [add_block]; exact hn879_0) | (show (Addr.add _ _).block ≠ _; rw [add_block]; exact hn879_0) | exact hn879_0) (.string ((rd_T147 l0 x41_2).f0))).trans hx879_0; replace hx879_0 := (cell_far (p := ⟨gb878, 1, none⟩) (by first | (rw [add_block]; exact hn879_1) | (show (Addr.add _ _).block ≠ _; rw [add_block]; exact hn879_1) | exact hn879_1) (.int .i64 ((rd_T147 l0 x41_2).f1))).trans hx879_0; replace hx879_0 := (cell_far (p := ⟨gb878, 2, none⟩) (by first | (rw [add_block]; exact hn879_2) | (show (Addr.add _ _).block ≠ _; rw [add_block]; exact hn879_2) | exact hn879_2) (.int .i64 ((rd_T147 l0 x41_2).f2))).trans hx879_0; replace hx879_0 := (cell_far (p := ⟨gb878, 3, none⟩) (by first | (rw [add_block]; exact hn879_3) | (show (Addr.add _ _).block ≠ _; rw [add_block]; exact hn879_3) | exact hn879_3) (.bool ((rd_T147 l0 x41_2).f3))).trans hx879_0; clear hn879_0; clear hn879_1; clear hn879_2; clear hn879_3; replace p879 := eq_true p879; replace q879 := eq_true q879; have hnb45 := NB871_872.out; have hnc45 := NB872_871.out; obtain ⟨hcz46_0, hcz46_1, hcz46_2, hfz46_0, hfz46_1, hfz46_2⟩ := cz3 BK871) | ((with_reducible refine gate_callee (f := 105) rfl ?_); refine gl (some 61) Try.func105 #[.slice A1 l1.length c1, .string ((rd_T147 l0 x41_2).f0), .string a2, .int .i64 (wrap64 (a3 - a4_2)), .int .i64 a3] ?_; (with_reducible refine (impl_AverageOf.calls k2 _ _ l1 ((rd_T147 l0 x41_2).f0) a2 (wrap64 (a3 - a4_2)) a3 t880 false _ ?side1 ?side2 A26.out).mono ?_); (case side1 => exact Kd.C_below HR1.out (bl3 GE871 GE872 GE878)); (case side2 => exact HC1.out); rintro e w47 ⟨rfl, hb⟩; refine ⟨_, rfl, ?_⟩; replace HO_12 := ak (Kd.R_below (by (with_reducible repeat (first | apply Kd.R_alloc | apply Kd.R_drewN | apply Kd.R_drew)); exact (Kd.R_mono (Kd.R_far (p := ⟨gb878, 3, none⟩) (Kd.R_far (p := ⟨gb878, 2, none⟩) (Kd.R_far (p := ⟨gb878, 1, none⟩) (Kd.R_far (p := ⟨gb878, 0, none⟩) (Kd.R_types HO_12.out BK878.out (by decide)) (fun _ hk => hk.2) (.string ((rd_T147 l0 x41_2).f0))) (fun _ hk => hk.2) (.int .i64 ((rd_T147 l0 x41_2).f1))) (fun _ hk => hk.2) (.int .i64 ((rd_T147 l0 x41_2).f2))) (fun _ hk => hk.2) (.bool ((rd_T147 l0 x41_2).f3))) (fun _ h_ => h_.1))) hb); replace HO_13 := ak (Kd.R_below (by (with_reducible repeat (first | apply Kd.R_alloc | apply Kd.R_drewN | apply Kd.R_drew)); exact (Kd.R_mono (Kd.R_far (p := ⟨gb878, 3, none⟩) (Kd.R_far (p := ⟨gb878, 2, none⟩) (Kd.R_far (p := ⟨gb878, 1, none⟩) (Kd.R_far (p := ⟨gb878, 0, none⟩) (Kd.R_types HO_13.out BK878.out (by decide)) (fun _ hk => hk.2) (.string ((rd_T147 l0 x41_2).f0))) (fun _ hk => hk.2) (.int .i64 ((rd_T147 l0 x41_2).f1))) (fun _ hk => hk.2) (.int .i64 ((rd_T147 l0 x41_2).f2))) (fun _ hk => hk.2) (.bool ((rd_T147 l0 x41_2).f3))) (fun _ h_ => h_.1))) hb); replace BK871 := bf1 BK871 NB871_878 hb; replace BK872 := bf1 BK872 NB872_878 hb; replace BK878 := ak (blk_below (g := gb878) (o := .cells #[.string ((rd_T147 l0 x41_2).f0), .int .i64 ((rd_T147 l0 x41_2).f1), .int .i64 ((rd_T147 l0 x41_2).f2), .bool ((rd_T147 l0 x41_2).f3)] 147 (0, 0)) (by (with_reducible repeat (first | refine blk_drewN ?_ _ | refine blk_drew ?_ | refine blk_alloc ?_ _)); refine blk_put (cs := #[.string ((rd_T147 l0 x41_2).f0), .int .i64 ((rd_T147 l0 x41_2).f1), .int .i64 ((rd_T147 l0 x41_2).f2), .bool false]) ?_ 3 _ rfl; (with_reducible repeat (first | refine blk_drewN ?_ _ | refine blk_drew ?_ | refine blk_alloc ?_ _)); refine blk_put (cs := #[.string ((rd_T147 l0 x41_2).f0), .int .i64 ((rd_T147 l0 x41_2).f1), .int .i64 0, .bool false]) ?_ 2 _ rfl; (with_reducible repeat (first | refine blk_drewN ?_ _ | refine blk_drew ?_ | refine blk_alloc ?_ _)); refine blk_put (cs := #[.string ((rd_T147 l0 x41_2).f0), .int .i64 0, .int .i64 0, .bool false]) ?_ 1 _ rfl; (with_reducible repeat (first | refine blk_drewN ?_ _ | refine blk_drew ?_ | refine blk_alloc ?_ _)); refine blk_put (cs := #[.string (⟨#[]⟩ : ByteArray), .int .i64 0, .int .i64 0, .bool false]) ?_ 0 _ rfl; (with_reducible repeat (first | refine blk_drewN ?_ _ | refine blk_drew ?_ | refine blk_alloc ?_ _)); exact BK878.out) hb); replace HB := ak (below_step (bl3 GE871 GE872 GE878) hb); (try clear hb); (try clear hb2); (try clear hk); (try clear hi); obtain ⟨hcz48_0, hcz48_1, hcz48_2, hcz48_3, hfz48_0, hfz48_1, hfz48_2, hfz48_3⟩ := cz4 BK878) | ((with_reducible refine gate_callee (f := 20) rfl ?_); refine gl (some 71) Try.func20 #[.slice A1 l1.length c1, .string ((rd_T147 l0 x41_2).f0), .string a2] ?_; (with_reducible refine (impl_LatestOf.calls k2 _ _ l1 ((rd_T147 l0 x41_2).f0) a2 t885 t886 t887 _ ?side1 ?side2 A38.out).mono ?_); (case side1 => exact cb HR1); (case side2 => exact HC1.out); rintro e w49 ⟨rfl, hb⟩; refine ⟨_, rfl, ?_⟩; replace HO_12 := ak (Kd.R_below (kr HO_12) hb); replace HO_13 := ak (Kd.R_below (kr HO_13) hb); replace BK871 := bb BK871 hb; replace BK872 := bb BK872 hb; replace BK878 := bb BK878 hb; replace HB := ak (below_step (bl3 GE871 GE872 GE878) hb); (try clear hb); (try clear hb2); (try clear hk); (try clear hi)) | ((with_reducible refine gate_dst (N := 18) rfl ?_); (try (refine gate_guard (by rfl) ?_; dsimp only)); refine bx 18 #[.int .i64 0, .int .i64 0] 37 ?_; intro gb888 hg w50 hbox hb; replace HO_12 := ak (Kd.R_below (kr HO_12) hb); replace HO_13 := ak (Kd.R_below (kr HO_13) hb); have BK888 := ak hbox; have GW888 := gs hg (bl3 GE871 GE872 GE878); have GE888 := gs hg (bl3 GE871 GE872 GE878); replace HB := ak (below_step (bl3 GE871 GE872 GE878) hb); have NB871_888 := nl hg BK871; have NB888_871 := ng hg BK871; replace BK871 := bb BK871 hb; have NB872_888 := nl hg BK872; have NB888_872 := ng hg BK872; replace BK872 := bb BK872 hb; have NB878_888 := nl hg BK878; have NB888_878 := ng hg BK878; replace BK878 := bb BK878 hb; clear hb hbox hg; have hnb51 := NB888_871.out; have hnc51 := NB871_888.out; have hnb52 := NB888_872.out; have hnc52 := NB872_888.out; have hnb53 := NB888_878.out; have hnc53 := NB878_888.out; obtain ⟨hcz54_0, hcz54_1, hfz54_0, hfz54_1⟩ := cz2 BK888) | ((with_reducible refine gate_builtin (b := .append) (xs := #[.tmp 76, .tmp 78]) rfl ?_); (try (refine gate_guard (by rfl) ?_; dsimp only)); at_builtin; refine Kd.R_append (Kd.int .i64) (w0 := w) w.heap.size rfl (.tmp 76) (.tmp 78) 25 3 (.int .i64 0) 8 rfl Try.underlying25 info3 rfl (by decide) (by omega) u13 x13_2 t886 [.int .i64 t886] (fun k_ => some k_ ≠ (.slice (some ad879) t873.length co44 : Value).ownBlock) (fun _ => False) rfl (by first | (go_simp; done) | (go_simp; rfl)) ?aP (fun _ hk => hk.elim) ?aF ?aO ?aB ?aS ?aL ?_; (case aP => exact rfl); (case aB => exact (by repeat (first | (with_reducible first | exact HB.out | apply below_alloc | apply pw_below_drewN | apply below_drew1 | refine below_set ?_ GE871.out | refine below_set ?_ GE872.out | refine below_set ?_ GE878.out | refine below_set ?_ GE888.out) | exact HB.out))); (case aF => exact (fun k_ hk => Kd.fresh' (Kd.R_lt (by (with_reducible repeat (first | apply Kd.R_alloc | apply Kd.R_drewN | apply Kd.R_drew)); exact (Kd.R_mono (Kd.R_far (p := ⟨gb888, 1, none⟩) (Kd.R_far (p := ⟨gb888, 0, none⟩) (Kd.R_types HO_12.out BK888.out (by decide)) (fun _ hk => hk.2) (.int .i64 t885)) (fun _ hk => hk.2) (.int .i64 t886)) (fun _ h_ => h_.1)))) k_ hk)); (case aO => exact (by (with_reducible repeat (first | apply Kd.R_alloc | apply Kd.R_drewN | apply Kd.R_drew)); exact Kd.R_mono (Kd.R_far (p := ⟨gb888, 1, none⟩) (Kd.R_far (p := ⟨gb888, 0, none⟩) (Kd.R_types HO_13.out BK888.out (by decide)) (fun _ hk => hk.2) (.int .i64 t885)) (fun _ hk => hk.2) (.int .i64 t886)) (fun _ hk => hk.1))); (case aS => exact (below_size (by repeat (first | (with_reducible first | exact HB.out | apply below_alloc | apply pw_below_drewN | apply below_drew1 | refine below_set ?_ GE871.out | refine below_set ?_ GE872.out | refine below_set ?_ GE878.out | refine below_set ?_ GE888.out) | exact HB.out)))); (case aL => have := LMc39.out; omega); intro v890 w55 ho hb hg hat; rw [← Ny889.out] at ho; replace HO_12 := ak (Kd.R_after (ok := (fun _ => True)) (by (with_reducible repeat (first | apply Kd.R_alloc | apply Kd.R_drewN | apply Kd.R_drew)); exact Kd.R_mono (Kd.R_far (p := ⟨gb888, 1, none⟩) (Kd.R_far (p := ⟨gb888, 0, none⟩) (Kd.R_types HO_12.out BK888.out (by decide)) (fun _ hk => hk.2) (.int .i64 t885)) (fun _ hk => hk.2) (.int .i64 t886)) (fun _ hk => ⟨trivial, hk.1⟩)) hg hat); replace BK871 := ak (blk_grown (g := gb871) (o := .cells #[.int .i64 a4_0, .int .i64 a4_1, .int .i64 a4_2] 61 (0, 0)) (by (with_reducible repeat (first | refine blk_drewN ?_ _ | refine blk_drew ?_ | refine blk_alloc ?_ _)); refine blk_far ?_ NB871_888.out _; (with_reducible repeat (first | refine blk_drewN ?_ _ | refine blk_drew ?_ | refine blk_alloc ?_ _)); refine blk_far ?_ NB871_888.out _; (with_reducible repeat (first | refine blk_drewN ?_ _ | refine blk_drew ?_ | refine blk_alloc ?_ _)); exact BK871.out) hg (Kd.R_ne HO_13.out BK871.out (by decide))); replace BK872 := ak (blk_grown (g := gb872) (o := .cells #[.int .i64 0, .int .i64 0, .int .i64 0, .int .i64 0] 83 (0, 0)) (by (with_reducible repeat (first | refine blk_drewN ?_ _ | refine blk_drew ?_ | refine blk_alloc ?_ _)); refine blk_far ?_ NB872_888.out _; (with_reducible repeat (first | refine blk_drewN ?_ _ | refine blk_drew ?_ | refine blk_alloc ?_ _)); refine blk_far ?_ NB872_888.out _; (with_reducible repeat (first | refine blk_drewN ?_ _ | refine blk_drew ?_ | refine blk_alloc ?_ _)); exact BK872.out) hg (Kd.R_ne HO_13.out BK872.out (by decide))); replace BK878 := ak (blk_grown (g := gb878) (o := .cells #[.string ((rd_T147 l0 x41_2).f0), .int .i64 ((rd_T147 l0 x41_2).f1), .int .i64 ((rd_T147 l0 x41_2).f2), .bool ((rd_T147 l0 x41_2).f3)] 147 (0, 0)) (by (with_reducible repeat (first | refine blk_drewN ?_ _ | refine blk_drew ?_ | refine blk_alloc ?_ _)); refine blk_far ?_ NB878_888.out _; (with_reducible repeat (first | refine blk_drewN ?_ _ | refine blk_drew ?_ | refine blk_alloc ?_ _)); refine blk_far ?_ NB878_888.out _; (with_reducible repeat (first | refine blk_drewN ?_ _ | refine blk_drew ?_ | refine blk_alloc ?_ _)); exact BK878.out) hg (Kd.R_ne HO_13.out BK878.out (by decide))); replace BK888 := ak (blk_grown (g := gb888) (o := .cells #[.int .i64 t885, .int .i64 t886] 37 (0, 0)) (by (with_reducible repeat (first | refine blk_drewN ?_ _ | refine blk_drew ?_ | refine blk_alloc ?_ _)); refine blk_put (cs := #[.int .i64 t885, .int .i64 0]) ?_ 1 _ rfl; (with_reducible repeat (first | refine blk_drewN ?_ _ | refine blk_drew ?_ | refine blk_alloc ?_ _)); refine blk_put (cs := #[.int .i64 0, .int .i64 0]) ?_ 0 _ rfl; (with_reducible repeat (first | refine blk_drewN ?_ _ | refine blk_drew ?_ | refine blk_alloc ?_ _)); exact BK888.out) hg (Kd.R_ne HO_13.out BK888.out (by decide))); replace HB := ak hb; have HO891 := ak ho; clear HO_13; clear ho hb hg hat))
                     go_roundg k2
                     case measure => have := HJ6.out; have := HK2.out; omega
                     case rel => exact ⟨(y889), (wrap64 (x41_2 + 1)), es, H', ⟨by have := HJ6.out; have := HK2.out; omega⟩, ⟨by (with_reducible repeat (first | apply Kd.R_alloc | apply Kd.R_drewN | apply Kd.R_drew)); exact Kd.R_mono HO_12.out (fun _ hk => hk.2)⟩, ⟨kr HO891⟩, ⟨bk BK871⟩, ⟨bk BK872⟩, ⟨by repeat (first | (with_reducible first | exact HB.out | apply below_alloc | apply pw_below_drewN | apply below_drew1 | refine below_set ?_ GE871.out | refine below_set ?_ GE872.out | refine below_set ?_ GE878.out | refine below_set ?_ GE888.out) | exact HB.out)⟩⟩
                   · rw [if_neg c39] at H
                     exact absurd H (by simp)
               · rw [if_neg c25] at H
                 have c25b0 : ((rd t873 x41_2) == 0) = false := beq_eq_false_iff_ne.mpr c25
                 have c25b1 : ((rd t873 x41_2) != 0) = true := bne_iff_ne.mpr c25
                 have H' := Aside0.mk H
                 clear H
                 have p877 : 0 ≤ (x41_2 : Int) := of_decide_eq_true am
                 have q877 : x41_2 < (l0.length : Int) := of_decide_eq_true am
                 obtain ⟨ad877, e877, hx877_0, hx877_1, hx877_2, hx877_3⟩ := at_T147 HR0.out x41_2 p877 q877
                 cases e877
                 replace hx877_0 := cw hx877_0
                 replace hx877_1 := cw hx877_1
                 replace hx877_2 := cw hx877_2
                 replace hx877_3 := cw hx877_3
                 replace p877 := eq_true p877
                 replace q877 := eq_true q877
                 go_wp2_with (first | ((with_reducible refine gate_dst (N := 15) rfl ?_); (try (refine gate_guard (by rfl) ?_; dsimp only)); refine bx 15 #[.string (⟨#[]⟩ : ByteArray), .int .i64 0, .int .i64 0, .bool false] 147 ?_; intro gb878 hg w56 hbox hb; replace HO_12 := ak (Kd.R_below (kr HO_12) hb); replace HO_13 := ak (Kd.R_below (kr HO_13) hb); have BK878 := ak hbox; have GW878 := gs hg (bl2 GE871 GE872); have GE878 := gs hg (bl2 GE871 GE872); replace HB := ak (below_step (bl2 GE871 GE872) hb); have NB871_878 := nl hg BK871; have NB878_871 := ng hg BK871; replace BK871 := bb BK871 hb; have NB872_878 := nl hg BK872; have NB878_872 := ng hg BK872; replace BK872 := bb BK872 hb; clear hb hbox hg; have hnb57 := NB878_871.out; have hnc57 := NB871_878.out; have hnb58 := NB878_872.out; have hnc58 := NB872_878.out; obtain ⟨hcz59_0, hcz59_1, hcz59_2, hcz59_3, hfz59_0, hfz59_1, hfz59_2, hfz59_3⟩ := cz4 BK878; obtain ⟨Ao60, co60, eo60⟩ := Kd.R_slice HO_12.out; subst eo60; have p879 : 0 ≤ (x41_2 : Int) := of_decide_eq_true am; have q879 : x41_2 < (t873.length : Int) := of_decide_eq_true am; obtain ⟨ad879, e879, hx879_0⟩ := Kd.at_int (Kd.R_reads' HO_12.out).2.2 x41_2 p879 q879; cases e879; have hn879_0 : ad879.block ≠ gb878 := Kd.own_blk (Kd.R_ne HO_12.out BK878.out (by decide)); have hn879_1 : ad879.block ≠ gb878 := Kd.own_blk (Kd.R_ne HO_12.out BK878.out (by decide)); have hn879_2 : ad879.block ≠ gb878 := Kd.own_blk (Kd.R_ne HO_12.out BK878.out (by decide)); have hn879_3 : ad879.block ≠ gb878 := Kd.own_blk (Kd.R_ne HO_12.out BK878.out (by decide)); replace hx879_0 := (cell_far (p := ⟨gb878, 0, none⟩) (by first | (rw [add_block]; exact hn879_0) | (show (Addr.add _ _).block ≠ _; rw [add_block]; exact hn879_0) | exact hn879_0) (.string ((rd_T147 l0 x41_2).f0))).trans hx879_0; replace hx879_0 := (cell_far (p := ⟨gb878, 1, none⟩) (by first | (rw [add_block]; exact hn879_1) | (show (Addr.add _ _).block ≠ _; rw [add_block]; exact hn879_1) | exact hn879_1) (.int .i64 ((rd_T147 l0 x41_2).f1))).trans hx879_0; replace hx879_0 := (cell_far (p := ⟨gb878, 2, none⟩) (by first | (rw [add_block]; exact hn879_2) | (show (Addr.add _ _).block ≠ _; rw [add_block]; exact hn879_2) | exact hn879_2) (.int .i64 ((rd_T147 l0 x41_2).f2))).trans hx879_0; replace hx879_0 := (cell_far (p := ⟨gb878, 3, none⟩) (by first | (rw [add_block]; exact hn879_3) | (show (Addr.add _ _).block ≠ _; rw [add_block]; exact hn879_3) | exact hn879_3) (.bool ((rd_T147 l0 x41_2).f3))).trans hx879_0; clear hn879_0; clear hn879_1; clear hn879_2; clear hn879_3; replace p879 := eq_true p879; replace q879 := eq_true q879))
                 go_roundg k2
                 case measure => have := HJ6.out; have := HK2.out; omega
                 case rel => exact ⟨(x13_2), (wrap64 (x41_2 + 1)), es, H', ⟨by have := HJ6.out; have := HK2.out; omega⟩, ⟨by (with_reducible repeat (first | apply Kd.R_alloc | apply Kd.R_drewN | apply Kd.R_drew)); exact Kd.R_mono (Kd.R_far (p := ⟨gb878, 3, none⟩) (Kd.R_far (p := ⟨gb878, 2, none⟩) (Kd.R_far (p := ⟨gb878, 1, none⟩) (Kd.R_far (p := ⟨gb878, 0, none⟩) (Kd.R_types HO_12.out BK878.out (by decide)) (fun _ hk => hk.2) (.string ((rd_T147 l0 x41_2).f0))) (fun _ hk => hk.2) (.int .i64 ((rd_T147 l0 x41_2).f1))) (fun _ hk => hk.2) (.int .i64 ((rd_T147 l0 x41_2).f2))) (fun _ hk => hk.2) (.bool ((rd_T147 l0 x41_2).f3))) (fun _ hk => hk.1)⟩, ⟨by (with_reducible repeat (first | apply Kd.R_alloc | apply Kd.R_drewN | apply Kd.R_drew)); exact Kd.R_mono (Kd.R_far (p := ⟨gb878, 3, none⟩) (Kd.R_far (p := ⟨gb878, 2, none⟩) (Kd.R_far (p := ⟨gb878, 1, none⟩) (Kd.R_far (p := ⟨gb878, 0, none⟩) (Kd.R_types HO_13.out BK878.out (by decide)) (fun _ hk => hk.2) (.string ((rd_T147 l0 x41_2).f0))) (fun _ hk => hk.2) (.int .i64 ((rd_T147 l0 x41_2).f1))) (fun _ hk => hk.2) (.int .i64 ((rd_T147 l0 x41_2).f2))) (fun _ hk => hk.2) (.bool ((rd_T147 l0 x41_2).f3))) (fun _ hk => hk.1)⟩, ⟨by (with_reducible repeat (first | refine blk_drewN ?_ _ | refine blk_drew ?_ | refine blk_alloc ?_ _)); refine blk_far ?_ NB871_878.out _; (with_reducible repeat (first | refine blk_drewN ?_ _ | refine blk_drew ?_ | refine blk_alloc ?_ _)); refine blk_far ?_ NB871_878.out _; (with_reducible repeat (first | refine blk_drewN ?_ _ | refine blk_drew ?_ | refine blk_alloc ?_ _)); refine blk_far ?_ NB871_878.out _; (with_reducible repeat (first | refine blk_drewN ?_ _ | refine blk_drew ?_ | refine blk_alloc ?_ _)); refine blk_far ?_ NB871_878.out _; (with_reducible repeat (first | refine blk_drewN ?_ _ | refine blk_drew ?_ | refine blk_alloc ?_ _)); exact BK871.out⟩, ⟨by (with_reducible repeat (first | refine blk_drewN ?_ _ | refine blk_drew ?_ | refine blk_alloc ?_ _)); refine blk_far ?_ NB872_878.out _; (with_reducible repeat (first | refine blk_drewN ?_ _ | refine blk_drew ?_ | refine blk_alloc ?_ _)); refine blk_far ?_ NB872_878.out _; (with_reducible repeat (first | refine blk_drewN ?_ _ | refine blk_drew ?_ | refine blk_alloc ?_ _)); refine blk_far ?_ NB872_878.out _; (with_reducible repeat (first | refine blk_drewN ?_ _ | refine blk_drew ?_ | refine blk_alloc ?_ _)); refine blk_far ?_ NB872_878.out _; (with_reducible repeat (first | refine blk_drewN ?_ _ | refine blk_drew ?_ | refine blk_alloc ?_ _)); exact BK872.out⟩, ⟨bl3 GE871 GE872 GE878⟩⟩
             · rw [if_neg c24] at H
               exact absurd H (by simp)
           · rw [if_neg c23] at H
             exact absurd H (by simp)
         · rw [if_neg c22] at H
           exact absurd H (by simp)
       · rw [if_neg c21] at H
         have c21b0 : decide (x41_2 < (l0.length : Int)) = false := decide_eq_false c21
         clear c21
         replace H := Option.bind_eq_some_iff.mp H
         obtain ⟨⟨t892, t893⟩, A610, H⟩ := H
         replace H : (if t893 = true then (some (0, 0, 0, 0, false)) else ((impl_CountClass.f k2 t873 1).bind fun t894 => ((impl_CountClass.f k2 t873 2).bind fun t895 => (some ((x13_2.length : Int), t894, t895, t892, true))))) = some (r1, r2, r3, r4, r5) := H
         have A61 := Aside0.mk A610
         clear A610
         by_cases c62 : t893 = true
         · subst c62
           replace H := iT H
           simp only [Option.some.injEq, Prod.mk.injEq] at H
           obtain ⟨rfl, rfl, rfl, rfl, rfl⟩ := H
           obtain ⟨Ao63, co63, eo63⟩ := Kd.R_slice HO_13.out
           subst eo63
           go_wp2_with (first | ((with_reducible refine gate_callee (f := 106) rfl ?_); refine gl (some 83) Try.func106 #[.slice Ao63 x13_2.length co63] ?_; (with_reducible refine (impl_AddValues.calls k2 _ _ x13_2 t892 true _ ?side1 ?side2 A61.out).mono ?_); (case side1 => repeat (first | exact (Kd.R_reads' HO_13.out).2.2 | (with_reducible refine Kd.C_alloc ?_ _) | (with_reducible refine Kd.C_drewN ?_ _) | (with_reducible refine Kd.C_drew ?_))); (case side2 => exact (Kd.R_reads' HO_13.out).2.1); rintro e w64 ⟨rfl, hb⟩; refine ⟨_, rfl, ?_⟩; replace HO_12 := ak (Kd.R_below (kr HO_12) hb); replace HO_13 := ak (Kd.R_below (kr HO_13) hb); replace BK871 := bb BK871 hb; replace BK872 := bb BK872 hb; replace HB := ak (below_step (bl2 GE871 GE872) hb); (try clear hb); (try clear hb2); (try clear hk); (try clear hi); have hnb65 := NB872_871.out; have hnc65 := NB871_872.out; obtain ⟨hcz66_0, hcz66_1, hcz66_2, hcz66_3, hfz66_0, hfz66_1, hfz66_2, hfz66_3⟩ := cz4 BK872))
           refine bodyPost_ret (results_ct rfl _ _ gb872 83 #[.int .i64 0, .int .i64 0, .int .i64 0, .int .i64 0] (0, 0) _ rfl (by (with_reducible repeat (first | refine blk_drewN ?_ _ | refine blk_drew ?_ | refine blk_alloc ?_ _)); refine blk_put (cs := #[.int .i64 0, .int .i64 0, .int .i64 0, .int .i64 0]) ?_ 3 _ rfl; (with_reducible repeat (first | refine blk_drewN ?_ _ | refine blk_drew ?_ | refine blk_alloc ?_ _)); refine blk_put (cs := #[.int .i64 0, .int .i64 0, .int .i64 0, .int .i64 0]) ?_ 2 _ rfl; (with_reducible repeat (first | refine blk_drewN ?_ _ | refine blk_drew ?_ | refine blk_alloc ?_ _)); refine blk_put (cs := #[.int .i64 0, .int .i64 0, .int .i64 0, .int .i64 0]) ?_ 1 _ rfl; (with_reducible repeat (first | refine blk_drewN ?_ _ | refine blk_drew ?_ | refine blk_alloc ?_ _)); refine blk_put (cs := #[.int .i64 0, .int .i64 0, .int .i64 0, .int .i64 0]) ?_ 0 _ rfl; (with_reducible repeat (first | refine blk_drewN ?_ _ | refine blk_drew ?_ | refine blk_alloc ?_ _)); exact BK872.out) Try.underlying83 rfl (by kernel_rfl)) rfl ?_
           exact ⟨ew, bl2 GE871 GE872⟩
         · replace c62 := Bool.eq_false_iff.mpr c62
           subst c62
           replace H := iF H
           obtain ⟨t894, A670, H⟩ := bo H
           have A67 := Aside0.mk A670
           clear A670
           obtain ⟨t895, A680, H⟩ := bo H
           have A68 := Aside0.mk A680
           clear A680
           simp only [Option.some.injEq, Prod.mk.injEq] at H
           obtain ⟨rfl, rfl, rfl, rfl, rfl⟩ := H
           obtain ⟨Ao69, co69, eo69⟩ := Kd.R_slice HO_13.out
           subst eo69
           go_wp2_with (first | ((with_reducible refine gate_callee (f := 106) rfl ?_); refine gl (some 83) Try.func106 #[.slice Ao69 x13_2.length co69] ?_; (with_reducible refine (impl_AddValues.calls k2 _ _ x13_2 t892 false _ ?side1 ?side2 A61.out).mono ?_); (case side1 => repeat (first | exact (Kd.R_reads' HO_13.out).2.2 | (with_reducible refine Kd.C_alloc ?_ _) | (with_reducible refine Kd.C_drewN ?_ _) | (with_reducible refine Kd.C_drew ?_))); (case side2 => exact (Kd.R_reads' HO_13.out).2.1); rintro e w70 ⟨rfl, hb⟩; refine ⟨_, rfl, ?_⟩; replace HO_12 := ak (Kd.R_below (kr HO_12) hb); replace HO_13 := ak (Kd.R_below (kr HO_13) hb); replace BK871 := bb BK871 hb; replace BK872 := bb BK872 hb; replace HB := ak (below_step (bl2 GE871 GE872) hb); (try clear hb); (try clear hb2); (try clear hk); (try clear hi); obtain ⟨Ao71, co71, eo71⟩ := Kd.R_slice HO_12.out; subst eo71) | ((with_reducible refine gate_callee (f := 107) rfl ?_); refine gl (some 91) Try.func107 #[.slice Ao71 t873.length co71, .int .i64 1] ?_; (with_reducible refine (impl_CountClass.calls k2 _ _ t873 1 t894 _ ?side1 ?side2 A67.out).mono ?_); (case side1 => repeat (first | exact (Kd.R_reads' HO_12.out).2.2 | (with_reducible refine Kd.C_alloc ?_ _) | (with_reducible refine Kd.C_drewN ?_ _) | (with_reducible refine Kd.C_drew ?_))); (case side2 => exact (Kd.R_reads' HO_12.out).2.1); rintro e w' ⟨rfl, ⟨nd, rfl⟩⟩; refine ⟨_, rfl, ?_⟩; (try (rw [drewN_self w70]; generalize hq_ : World.drewN w70 _ = w70; have n0_ : Aside0 (Kd.R (Kd.int .i64) 3 w70 w.heap.size (fun k_ => some k_ ≠ (.slice Ao69 x13_2.length co69 : Value).ownBlock) (.slice Ao71 t873.length co71) t873) := ⟨by rw [← hq_]; exact (kr HO_12)⟩; have n1_ : Aside0 (Kd.R (Kd.int .i64) 3 w70 w.heap.size (fun k_ => some k_ ≠ (.slice Ao71 t873.length co71 : Value).ownBlock) (.slice Ao69 x13_2.length co69) x13_2) := ⟨by rw [← hq_]; exact (kr HO_13)⟩; have n2_ : Aside0 (w70.heap[gb871]? = some (.cells #[.int .i64 a4_0, .int .i64 a4_1, .int .i64 a4_2] 61 (0, 0))) := ⟨by rw [← hq_]; exact (bk BK871)⟩; have n3_ : Aside0 (w70.heap[gb872]? = some (.cells #[.int .i64 0, .int .i64 0, .int .i64 0, .int .i64 0] 83 (0, 0))) := ⟨by rw [← hq_]; exact (bk BK872)⟩; have n4_ : Aside0 (Below w.heap.size w w70) := ⟨by rw [← hq_]; exact (bl2 GE871 GE872)⟩; clear HO_12 HO_13 BK871 BK872 HB hq_; have HO_12 := n0_; have HO_13 := n1_; have BK871 := n2_; have BK872 := n3_; have HB := n4_; clear n0_ n1_ n2_ n3_ n4_))) | ((with_reducible refine gate_callee (f := 107) rfl ?_); refine gl (some 93) Try.func107 #[.slice Ao71 t873.length co71, .int .i64 2] ?_; (with_reducible refine (impl_CountClass.calls k2 _ _ t873 2 t895 _ ?side1 ?side2 A68.out).mono ?_); (case side1 => repeat (first | exact (Kd.R_reads' HO_12.out).2.2 | (with_reducible refine Kd.C_alloc ?_ _) | (with_reducible refine Kd.C_drewN ?_ _) | (with_reducible refine Kd.C_drew ?_))); (case side2 => exact (Kd.R_reads' HO_12.out).2.1); rintro e w' ⟨rfl, ⟨nd, rfl⟩⟩; refine ⟨_, rfl, ?_⟩; (try (rw [drewN_self w70]; generalize hq_ : World.drewN w70 _ = w70; have n0_ : Aside0 (Kd.R (Kd.int .i64) 3 w70 w.heap.size (fun k_ => some k_ ≠ (.slice Ao69 x13_2.length co69 : Value).ownBlock) (.slice Ao71 t873.length co71) t873) := ⟨by rw [← hq_]; exact (kr HO_12)⟩; have n1_ : Aside0 (Kd.R (Kd.int .i64) 3 w70 w.heap.size (fun k_ => some k_ ≠ (.slice Ao71 t873.length co71 : Value).ownBlock) (.slice Ao69 x13_2.length co69) x13_2) := ⟨by rw [← hq_]; exact (kr HO_13)⟩; have n2_ : Aside0 (w70.heap[gb871]? = some (.cells #[.int .i64 a4_0, .int .i64 a4_1, .int .i64 a4_2] 61 (0, 0))) := ⟨by rw [← hq_]; exact (bk BK871)⟩; have n3_ : Aside0 (w70.heap[gb872]? = some (.cells #[.int .i64 0, .int .i64 0, .int .i64 0, .int .i64 0] 83 (0, 0))) := ⟨by rw [← hq_]; exact (bk BK872)⟩; have n4_ : Aside0 (Below w.heap.size w w70) := ⟨by rw [← hq_]; exact (bl2 GE871 GE872)⟩; clear HO_12 HO_13 BK871 BK872 HB hq_; have HO_12 := n0_; have HO_13 := n1_; have BK871 := n2_; have BK872 := n3_; have HB := n4_; clear n0_ n1_ n2_ n3_ n4_)); have hnb72 := NB872_871.out; have hnc72 := NB871_872.out; obtain ⟨hcz73_0, hcz73_1, hcz73_2, hcz73_3, hfz73_0, hfz73_1, hfz73_2, hfz73_3⟩ := cz4 BK872))
           refine bodyPost_ret (results_ct rfl _ _ gb872 83 #[.int .i64 (x13_2.length : Int), .int .i64 t894, .int .i64 t895, .int .i64 t892] (0, 0) _ rfl (by (with_reducible repeat (first | refine blk_drewN ?_ _ | refine blk_drew ?_ | refine blk_alloc ?_ _)); refine blk_put (cs := #[.int .i64 (x13_2.length : Int), .int .i64 t894, .int .i64 t895, .int .i64 0]) ?_ 3 _ rfl; (with_reducible repeat (first | refine blk_drewN ?_ _ | refine blk_drew ?_ | refine blk_alloc ?_ _)); refine blk_put (cs := #[.int .i64 (x13_2.length : Int), .int .i64 t894, .int .i64 0, .int .i64 0]) ?_ 2 _ rfl; (with_reducible repeat (first | refine blk_drewN ?_ _ | refine blk_drew ?_ | refine blk_alloc ?_ _)); refine blk_put (cs := #[.int .i64 (x13_2.length : Int), .int .i64 0, .int .i64 0, .int .i64 0]) ?_ 1 _ rfl; (with_reducible repeat (first | refine blk_drewN ?_ _ | refine blk_drew ?_ | refine blk_alloc ?_ _)); refine blk_put (cs := #[.int .i64 0, .int .i64 0, .int .i64 0, .int .i64 0]) ?_ 0 _ rfl; (with_reducible repeat (first | refine blk_drewN ?_ _ | refine blk_drew ?_ | refine blk_alloc ?_ _)); exact BK872.out) Try.underlying83 rfl (by kernel_rfl)) rfl ?_
           exact ⟨ew, bl2 GE871 GE872⟩

end Go.Proofs.Ytplekidnlofioaa.Q
namespace Go.Proofs.Ytplekidnlofioaa.Q
open Go.RowKit Go.Proofs.YtplekidnlofioaaW.PrintWords Go.Proofs.YtplekidnlofioaaW.PrintLast Go.Proofs.YtplekidnlofioaaW.PrintMore
attribute [local go_sem] max2_int min2_int max_two min_two max_three min_three max_four min_four   -- for this text's walks alone
set_option linter.unusedVariables false
set_option linter.unusedSimpArgs false

/-! ### laws_eqTally: function 54 -/
def laws_eqTally.f (a0_0 : Int) (a0_1 : Int) (a0_2 : Int) (a0_3 : Int) (a1_0 : Int) (a1_1 : Int) (a1_2 : Int) (a1_3 : Int) : Option (Bool) := if a0_0 = a1_0 then (if a0_1 = a1_1 then (if a0_2 = a1_2 then (if a0_3 = a1_3 then (some true) else (some false)) else (some false)) else (some false)) else (some false)
set_option maxHeartbeats 8000000 in
set_option maxRecDepth 100000 in
theorem laws_eqTally.calls (a0_0 : Int) (a0_1 : Int) (a0_2 : Int) (a0_3 : Int) (a1_0 : Int) (a1_1 : Int) (a1_2 : Int) (a1_3 : Int) (r : Bool) (w : World) (h : laws_eqTally.f a0_0 a0_1 a0_2 a0_3 a1_0 a1_1 a1_2 a1_3 = some r) :
 Calls Try.prog 54 #[.agg #[.int .i64 a0_0, .int .i64 a0_1, .int .i64 a0_2, .int .i64 a0_3], .agg #[.int .i64 a1_0, .int .i64 a1_1, .int .i64 a1_2, .int .i64 a1_3]] w fun e w' => e = .returned (.bool r) ∧ Below w.heap.size w w' := by
 have hu83 := Try.underlying83
 have HB := Aside0.mk (Below.refl w.heap.size w)
 have H : (if a0_0 = a1_0 then (if a0_1 = a1_1 then (if a0_2 = a1_2 then (if a0_3 = a1_3 then (some true) else (some false)) else (some false)) else (some false)) else (some false)) = some r := h
 clear h
 by_cases c3 : a0_0 = a1_0
 · rw [if_pos c3] at H
   have c3b0 : (a0_0 == a1_0) = true := beq_iff_eq.mpr c3
   have c3b1 : (a0_0 != a1_0) = false := bne_eq_false_iff_eq.mpr c3
   clear c3
   by_cases c4 : a0_1 = a1_1
   · rw [if_pos c4] at H
     have c4b0 : (a0_1 == a1_1) = true := beq_iff_eq.mpr c4
     have c4b1 : (a0_1 != a1_1) = false := bne_eq_false_iff_eq.mpr c4
     clear c4
     by_cases c5 : a0_2 = a1_2
     · rw [if_pos c5] at H
       have c5b0 : (a0_2 == a1_2) = true := beq_iff_eq.mpr c5
       have c5b1 : (a0_2 != a1_2) = false := bne_eq_false_iff_eq.mpr c5
       clear c5
       by_cases c6 : a0_3 = a1_3
       · rw [if_pos c6] at H
         have c6b0 : (a0_3 == a1_3) = true := beq_iff_eq.mpr c6
         have c6b1 : (a0_3 != a1_3) = false := bne_eq_false_iff_eq.mpr c6
         clear c6
         obtain rfl := Option.some.inj H
         go_enter Try.func54, Try.ntmps54
         go_wp2_with (first | ((with_reducible refine gate_dst (N := 2) rfl ?_); refine bx 2 #[.int .i64 a0_0, .int .i64 a0_1, .int .i64 a0_2, .int .i64 a0_3] 83 ?_; intro gb896 hg w7 hbox hb; have BK896 := ak hbox; have GW896 := gs hg bl; have GE896 := gs hg bl; replace HB := ak (below_step bl hb); clear hb hbox hg) | ((with_reducible refine gate_dst (N := 3) rfl ?_); refine bx 3 #[.int .i64 a1_0, .int .i64 a1_1, .int .i64 a1_2, .int .i64 a1_3] 83 ?_; intro gb897 hg w8 hbox hb; have BK897 := ak hbox; have GW897 := gs hg (bl1 GE896); have GE897 := gs hg (bl1 GE896); replace HB := ak (below_step (bl1 GE896) hb); have NB896_897 := nl hg BK896; have NB897_896 := ng hg BK896; replace BK896 := bb BK896 hb; clear hb hbox hg; have hnb9 := NB896_897.out; have hnc9 := NB897_896.out; obtain ⟨hcz10_0, hcz10_1, hcz10_2, hcz10_3, hfz10_0, hfz10_1, hfz10_2, hfz10_3⟩ := cz4 BK896; obtain ⟨hcz11_0, hcz11_1, hcz11_2, hcz11_3, hfz11_0, hfz11_1, hfz11_2, hfz11_3⟩ := cz4 BK897))
         go_ret
         exact ⟨ew, bl2 GE896 GE897⟩
       · rw [if_neg c6] at H
         have c6b0 : (a0_3 == a1_3) = false := beq_eq_false_iff_ne.mpr c6
         have c6b1 : (a0_3 != a1_3) = true := bne_iff_ne.mpr c6
         obtain rfl := Option.some.inj H
         go_enter Try.func54, Try.ntmps54
         go_wp2_with (first | ((with_reducible refine gate_dst (N := 2) rfl ?_); refine bx 2 #[.int .i64 a0_0, .int .i64 a0_1, .int .i64 a0_2, .int .i64 a0_3] 83 ?_; intro gb896 hg w12 hbox hb; have BK896 := ak hbox; have GW896 := gs hg bl; have GE896 := gs hg bl; replace HB := ak (below_step bl hb); clear hb hbox hg) | ((with_reducible refine gate_dst (N := 3) rfl ?_); refine bx 3 #[.int .i64 a1_0, .int .i64 a1_1, .int .i64 a1_2, .int .i64 a1_3] 83 ?_; intro gb897 hg w13 hbox hb; have BK897 := ak hbox; have GW897 := gs hg (bl1 GE896); have GE897 := gs hg (bl1 GE896); replace HB := ak (below_step (bl1 GE896) hb); have NB896_897 := nl hg BK896; have NB897_896 := ng hg BK896; replace BK896 := bb BK896 hb; clear hb hbox hg; have hnb14 := NB896_897.out; have hnc14 := NB897_896.out; obtain ⟨hcz15_0, hcz15_1, hcz15_2, hcz15_3, hfz15_0, hfz15_1, hfz15_2, hfz15_3⟩ := cz4 BK896; obtain ⟨hcz16_0, hcz16_1, hcz16_2, hcz16_3, hfz16_0, hfz16_1, hfz16_2, hfz16_3⟩ := cz4 BK897))
         go_ret
         exact ⟨ew, bl2 GE896 GE897⟩
     · rw [if_neg c5] at H
       have c5b0 : (a0_2 == a1_2) = false := beq_eq_false_iff_ne.mpr c5
       have c5b1 : (a0_2 != a1_2) = true := bne_iff_ne.mpr c5
       obtain rfl := Option.some.inj H
       go_enter Try.func54, Try.ntmps54
       go_wp2_with (first | ((with_reducible refine gate_dst (N := 2) rfl ?_); refine bx 2 #[.int .i64 a0_0, .int .i64 a0_1, .int .i64 a0_2, .int .i64 a0_3] 83 ?_; intro gb896 hg w17 hbox hb; have BK896 := ak hbox; have GW896 := gs hg bl; have GE896 := gs hg bl; replace HB := ak (below_step bl hb); clear hb hbox hg) | ((with_reducible refine gate_dst (N := 3) rfl ?_); refine bx 3 #[.int .i64 a1_0, .int .i64 a1_1, .int .i64 a1_2, .int .i64 a1_3] 83 ?_; intro gb897 hg w18 hbox hb; have BK897 := ak hbox; have GW897 := gs hg (bl1 GE896); have GE897 := gs hg (bl1 GE896); replace HB := ak (below_step (bl1 GE896) hb); have NB896_897 := nl hg BK896; have NB897_896 := ng hg BK896; replace BK896 := bb BK896 hb; clear hb hbox hg; have hnb19 := NB896_897.out; have hnc19 := NB897_896.out; obtain ⟨hcz20_0, hcz20_1, hcz20_2, hcz20_3, hfz20_0, hfz20_1, hfz20_2, hfz20_3⟩ := cz4 BK896; obtain ⟨hcz21_0, hcz21_1, hcz21_2, hcz21_3, hfz21_0, hfz21_1, hfz21_2, hfz21_3⟩ := cz4 BK897))
       go_ret
       exact ⟨ew, bl2 GE896 GE897⟩
   · rw [if_neg c4] at H
     have c4b0 : (a0_1 == a1_1) = false := beq_eq_false_iff_ne.mpr c4
     have c4b1 : (a0_1 != a1_1) = true := bne_iff_ne.mpr c4
     obtain rfl := Option.some.inj H
     go_enter Try.func54, Try.ntmps54
     go_wp2_with (first | ((with_reducible refine gate_dst (N := 2) rfl ?_); refine bx 2 #[.int .i64 a0_0, .int .i64 a0_1, .int .i64 a0_2, .int .i64 a0_3] 83 ?_; intro gb896 hg w22 hbox hb; have BK896 := ak hbox; have GW896 := gs hg bl; have GE896 := gs hg bl; replace HB := ak (below_step bl hb); clear hb hbox hg) | ((with_reducible refine gate_dst (N := 3) rfl ?_); refine bx 3 #[.int .i64 a1_0, .int .i64 a1_1, .int .i64 a1_2, .int .i64 a1_3] 83 ?_; intro gb897 hg w23 hbox hb; have BK897 := ak hbox; have GW897 := gs hg (bl1 GE896); have GE897 := gs hg (bl1 GE896); replace HB := ak (below_step (bl1 GE896) hb); have NB896_897 := nl hg BK896; have NB897_896 := ng hg BK896; replace BK896 := bb BK896 hb; clear hb hbox hg; have hnb24 := NB896_897.out; have hnc24 := NB897_896.out; obtain ⟨hcz25_0, hcz25_1, hcz25_2, hcz25_3, hfz25_0, hfz25_1, hfz25_2, hfz25_3⟩ := cz4 BK896; obtain ⟨hcz26_0, hcz26_1, hcz26_2, hcz26_3, hfz26_0, hfz26_1, hfz26_2, hfz26_3⟩ := cz4 BK897))
     go_ret
     exact ⟨ew, bl2 GE896 GE897⟩
 · rw [if_neg c3] at H
   have c3b0 : (a0_0 == a1_0) = false := beq_eq_false_iff_ne.mpr c3
   have c3b1 : (a0_0 != a1_0) = true := bne_iff_ne.mpr c3
   obtain rfl := Option.some.inj H
   go_enter Try.func54, Try.ntmps54
   go_wp2_with (first | ((with_reducible refine gate_dst (N := 2) rfl ?_); refine bx 2 #[.int .i64 a0_0, .int .i64 a0_1, .int .i64 a0_2, .int .i64 a0_3] 83 ?_; intro gb896 hg w27 hbox hb; have BK896 := ak hbox; have GW896 := gs hg bl; have GE896 := gs hg bl; replace HB := ak (below_step bl hb); clear hb hbox hg) | ((with_reducible refine gate_dst (N := 3) rfl ?_); refine bx 3 #[.int .i64 a1_0, .int .i64 a1_1, .int .i64 a1_2, .int .i64 a1_3] 83 ?_; intro gb897 hg w28 hbox hb; have BK897 := ak hbox; have GW897 := gs hg (bl1 GE896); have GE897 := gs hg (bl1 GE896); replace HB := ak (below_step (bl1 GE896) hb); have NB896_897 := nl hg BK896; have NB897_896 := ng hg BK896; replace BK896 := bb BK896 hb; clear hb hbox hg; have hnb29 := NB896_897.out; have hnc29 := NB897_896.out; obtain ⟨hcz30_0, hcz30_1, hcz30_2, hcz30_3, hfz30_0, hfz30_1, hfz30_2, hfz30_3⟩ := cz4 BK896; obtain ⟨hcz31_0, hcz31_1, hcz31_2, hcz31_3, hfz31_0, hfz31_1, hfz31_2, hfz31_3⟩ := cz4 BK897))
   go_ret
   exact ⟨ew, bl2 GE896 GE897⟩

end Go.Proofs.Ytplekidnlofioaa.Q
