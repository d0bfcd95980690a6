/- Part 5 of the proof of FnExactClassesOf: contracts of the functions that it reaches, printed and by hand, and what they come to in plain Lean. -/
import Derived.Test.YtplekidnlofioaaAFnExactClassesOf2
import Derived.Test.YtplekidnlofioaaAFnExactClassesOf4
import Derived.Test.YtplekidnlofioaaAFnExactClassesOf3
namespace Go.Proofs.Ytplekidnlofioaa.Q
open Go.RowKit Go.Proofs.YtplekidnlofioaaW.PrintWords Go.Proofs.YtplekidnlofioaaW.PrintLast Go.Proofs.YtplekidnlofioaaW.PrintMore
attribute [local go_sem] max2_int min2_int max_two min_two max_three min_three max_four min_four   -- for this text's walks alone
set_option linter.unusedVariables false
set_option linter.unusedSimpArgs false

/-! ### impl_ClassesOf: function 36 -/
def impl_ClassesOf.l0 : Nat → List (S81) → ByteArray → Int → List Int → List (S147) → Int → Int → Int → Int → Int → Option (List Int)
 | 0, _, _, _, _, _, _, _, _, _, _ => none
 | k + 1, x1, x2, x3, x11, x18, x19, x20, x455000, x455001, x455002 => if x20 < x19 then (if 0 ≤ x20 then (if x20 < (x18.length : Int) then ((impl_ClassOf.f k ((rd_T147 x18 x20).f0) ((rd_T147 x18 x20).f1) ((rd_T147 x18 x20).f2) ((rd_T147 x18 x20).f3) x1 x2 x3 x455000 x455001 x455002).bind fun t458 => (if t458 < 0 then (some ([] : List Int)) else (if x11.length < 17592186044416 then (impl_ClassesOf.l0 k x1 x2 x3 (x11 ++ [t458]) x18 x19 (wrap64 (x20 + 1)) x455000 x455001 x455002) else (none)))) else (none)) else (none)) else (some x11)
def impl_ClassesOf.f (k : Nat) (l0 : List (S147)) (l1 : List (S81)) (a2 : ByteArray) (a3 : Int) (a4_0 : Int) (a4_1 : Int) (a4_2 : Int) : Option (List Int) := (impl_PodsOk.f k l0).bind fun t455 => (if t455 = true then (impl_ClassesOf.l0 k l1 a2 a3 ([] : List Int) l0 (l0.length : Int) 0 a4_0 a4_1 a4_2) else (some ([] : List Int)))
theorem impl_ClassesOf.mono_l : ∀ k, (∀ y0 y1 y2 y3 y4 y5 y6 y7 y8 y9, LeO (impl_ClassesOf.l0 k y0 y1 y2 y3 y4 y5 y6 y7 y8 y9) (impl_ClassesOf.l0 (k + 1) y0 y1 y2 y3 y4 y5 y6 y7 y8 y9))
 | 0 => fun _ _ _ _ _ _ _ _ _ _ r h => by simp [impl_ClassesOf.l0] at h
 | k + 1 => by
  have ih0 := impl_ClassesOf.mono_l k
  · intro y0 y1 y2 y3 y4 y5 y6 y7 y8 y9
    unfold impl_ClassesOf.l0
    repeat' first
    | (with_reducible exact ih0 _ _ _ _ _ _ _ _ _ _)
    | (with_reducible exact impl_ClassOf.mono _ _ _ _ _ _ _ _ _ _ _)
    | (with_reducible exact impl_PodsOk.mono _ _)
    | (with_reducible exact LeO.refl _)
    | (with_reducible exact LeO.none _)
    | (with_reducible refine LeO.ite ?_ ?_)
    | (with_reducible refine LeO.bind ?_ (fun _ => ?_))
    | exact ih0 _ _ _ _ _ _ _ _ _ _
    | exact impl_ClassOf.mono _ _ _ _ _ _ _ _ _ _ _
    | exact impl_PodsOk.mono _ _
    | exact LeO.none _
    | refine LeO.ite ?_ ?_
    | refine LeO.bind ?_ (fun _ => ?_)
theorem impl_ClassesOf.mono : ∀ a0 a1 a2 a3 a4 a5 a6 k, LeO (impl_ClassesOf.f k a0 a1 a2 a3 a4 a5 a6) (impl_ClassesOf.f (k + 1) a0 a1 a2 a3 a4 a5 a6) := by
 intro a0 a1 a2 a3 a4 a5 a6 k
 have ih0 := impl_ClassesOf.mono_l k
 unfold impl_ClassesOf.f
 repeat' first
  | (with_reducible exact ih0 _ _ _ _ _ _ _ _ _ _)
  | (with_reducible exact impl_ClassOf.mono _ _ _ _ _ _ _ _ _ _ _)
  | (with_reducible exact impl_PodsOk.mono _ _)
  | (with_reducible exact LeO.refl _)
  | (with_reducible exact LeO.none _)
  | (with_reducible refine LeO.ite ?_ ?_)
  | (with_reducible refine LeO.bind ?_ (fun _ => ?_))
  | exact ih0 _ _ _ _ _ _ _ _ _ _
  | exact impl_ClassOf.mono _ _ _ _ _ _ _ _ _ _ _
  | exact impl_PodsOk.mono _ _
  | exact LeO.none _
  | refine LeO.ite ?_ ?_
  | refine LeO.bind ?_ (fun _ => ?_)
set_option maxHeartbeats 8000000 in
set_option maxRecDepth 100000 in
theorem impl_ClassesOf.calls (k : Nat) (A0 : Option Addr) (c0 : Nat) (l0 : List (S147)) (A1 : Option Addr) (c1 : Nat) (l1 : List (S81)) (a2 : ByteArray) (a3 : Int) (a4_0 : Int) (a4_1 : Int) (a4_2 : Int) (r : List Int) (w : World) (hr0 : Kd.C k147 w A0 l0.length l0) (hc0 : l0.length ≤ c0) (hr1 : Kd.C k81 w A1 l1.length l1) (hc1 : l1.length ≤ c1) (h : impl_ClassesOf.f k l0 l1 a2 a3 a4_0 a4_1 a4_2 = some r) :
 Calls Try.prog 36 #[.slice A0 l0.length c0, .slice A1 l1.length c1, .string a2, .int .i64 a3, .agg #[.int .i64 a4_0, .int .i64 a4_1, .int .i64 a4_2]] w fun e w' => ∃ v0_ : Value, e = .returned (v0_) ∧ Kd.R (Kd.int .i64) 3 w' w.heap.size (fun _ => True) v0_ r ∧ Below w.heap.size w w' := by
 have hu61 := Try.underlying61
 have hu147 := Try.underlying147
 have HR0 := Aside0.mk hr0
 have HC0 := Aside0.mk hc0
 clear hr0 hc0
 have HR1 := Aside0.mk hr1
 have HC1 := Aside0.mk hc1
 clear hr1 hc1
 have HB := Aside0.mk (Below.refl w.heap.size w)
 have H : ((impl_PodsOk.f k l0).bind fun t455 => (if t455 = true then (impl_ClassesOf.l0 k l1 a2 a3 ([] : List Int) l0 (l0.length : Int) 0 a4_0 a4_1 a4_2) else (some ([] : List Int)))) = some r := h
 clear h
 obtain ⟨t455, A60, H⟩ := bo H
 have A6 := Aside0.mk A60
 clear A60
 by_cases c7 : t455 = true
 · subst c7
   replace H := iT H
   have H' := Aside0.mk H
   clear H
   go_enter Try.func36, Try.ntmps36
   go_wp2_with (first | ((with_reducible refine gate_dst (N := 9) rfl ?_); refine bx 9 #[.int .i64 a4_0, .int .i64 a4_1, .int .i64 a4_2] 61 ?_; intro gb454 hg w8 hbox hb; have BK454 := ak hbox; have GW454 := gs hg bl; have GE454 := gs hg bl; replace HB := ak (below_step bl hb); clear hb hbox hg) | ((with_reducible refine gate_callee (f := 89) rfl ?_); refine gl (some 16) Try.func89 #[.slice A0 l0.length c0] ?_; (with_reducible refine (impl_PodsOk.calls k _ _ l0 true _ ?side1 ?side2 A6.out).mono ?_); (case side1 => exact cb HR0); (case side2 => exact HC0.out); rintro e w9 ⟨rfl, hb⟩; refine ⟨_, rfl, ?_⟩; replace BK454 := bb BK454 hb; replace HB := ak (below_step (bl1 GE454) hb); (try clear hb); (try clear hb2); (try clear hk); (try clear hi)))
   go_loopg [11, 20] k (fun kq v11 v20 w' => ∃ (x11_1 : List Int) (x20_1 : Int), v20 = .int .i64 x20_1 ∧ Aside0 (impl_ClassesOf.l0 kq l1 a2 a3 x11_1 l0 (l0.length : Int) x20_1 a4_0 a4_1 a4_2 = some r) ∧ Aside0 (kq ≤ k) ∧ Aside0 (Kd.R (Kd.int .i64) 3 w' w.heap.size (fun _ => True) v11 x11_1) ∧ Aside0 (w'.heap[gb454]? = some (.cells #[.int .i64 a4_0, .int .i64 a4_1, .int .i64 a4_2] 61 (0, 0))) ∧ Aside0 (Below w.heap.size w w'))
   case atStart => exact ⟨(([] : List Int)), (0), es, H', ⟨Nat.le_refl _⟩, ⟨by first | exact Kd.R_nil _ _ _ _ _ | exact Kd.N_nil _ _ _ _ _ | exact Kd.V_nil _ _ _ _ _ | exact Kd.Q_nil _ _ _ _ _ | exact Kd.S_nil _ _ _ _ _⟩, ⟨bk BK454⟩, ⟨bl1 GE454⟩⟩
   case round =>
    clear H'
    try clear c1
    try clear p2
    try clear c3
    try clear c7
    try clear c8
    obtain ⟨x11_1, x20_1, rfl, HA, HK1, HO_11, BK454, HB⟩ := hrel
    cases gk with
    | zero => exact absurd HA.out (by simp [impl_ClassesOf.l0])
    | succ k1 =>
     have H := HA.out
     clear HA
     simp only [impl_ClassesOf.l0] at H
     by_cases c10 : x20_1 < (l0.length : Int)
     · rw [if_pos c10] at H
       have c10b0 : decide (x20_1 < (l0.length : Int)) = true := decide_eq_true c10
       clear c10
       by_cases c11 : 0 ≤ x20_1
       · rw [if_pos c11] at H
         have c11b0 : decide (0 ≤ x20_1) = true := decide_eq_true c11
         clear c11
         by_cases c12 : x20_1 < (l0.length : Int)
         · rw [if_pos c12] at H
           have c12b0 : decide (x20_1 < (l0.length : Int)) = true := decide_eq_true c12
           clear c12
           obtain ⟨t458, A130, H⟩ := bo H
           have A13 := Aside0.mk A130
           clear A130
           by_cases c14 : t458 < 0
           · rw [if_pos c14] at H
             have c14b0 : decide (t458 < 0) = true := decide_eq_true c14
             clear c14
             obtain rfl := Option.some.inj H
             have p456 : 0 ≤ (x20_1 : Int) := of_decide_eq_true am
             have q456 : x20_1 < (l0.length : Int) := of_decide_eq_true am
             obtain ⟨ad456, e456, hx456_0, hx456_1, hx456_2, hx456_3⟩ := at_T147 HR0.out x20_1 p456 q456
             cases e456
             replace hx456_0 := cw hx456_0
             replace hx456_1 := cw hx456_1
             replace hx456_2 := cw hx456_2
             replace hx456_3 := cw hx456_3
             replace p456 := eq_true p456
             replace q456 := eq_true q456
             go_wp2_with (first | ((with_reducible refine gate_dst (N := 13) rfl ?_); refine bx 13 #[.string (⟨#[]⟩ : ByteArray), .int .i64 0, .int .i64 0, .bool false] 147 ?_; intro gb457 hg w15 hbox hb; replace HO_11 := ak (Kd.R_below (kr HO_11) hb); have BK457 := ak hbox; have GW457 := gs hg (bl1 GE454); have GE457 := gs hg (bl1 GE454); replace HB := ak (below_step (bl1 GE454) hb); have NB454_457 := nl hg BK454; have NB457_454 := ng hg BK454; replace BK454 := bb BK454 hb; clear hb hbox hg; have hnb16 := NB457_454.out; have hnc16 := NB454_457.out; obtain ⟨hcz17_0, hcz17_1, hcz17_2, hcz17_3, hfz17_0, hfz17_1, hfz17_2, hfz17_3⟩ := cz4 BK457; obtain ⟨hcz18_0, hcz18_1, hcz18_2, hfz18_0, hfz18_1, hfz18_2⟩ := cz3 BK454) | ((with_reducible refine gate_callee (f := 90) rfl ?_); refine gl (some 29) Try.func90 #[.agg #[.string ((rd_T147 l0 x20_1).f0), .int .i64 ((rd_T147 l0 x20_1).f1), .int .i64 ((rd_T147 l0 x20_1).f2), .bool ((rd_T147 l0 x20_1).f3)], .slice A1 l1.length c1, .string a2, .int .i64 a3, .agg #[.int .i64 a4_0, .int .i64 a4_1, .int .i64 a4_2]] ?_; (with_reducible refine (impl_ClassOf.calls k1 ((rd_T147 l0 x20_1).f0) ((rd_T147 l0 x20_1).f1) ((rd_T147 l0 x20_1).f2) ((rd_T147 l0 x20_1).f3) _ _ l1 a2 a3 a4_0 a4_1 a4_2 t458 _ ?side1 ?side2 A13.out).mono ?_); (case side1 => exact Kd.C_below HR1.out (bl2 GE454 GE457)); (case side2 => exact HC1.out); rintro e w19 ⟨rfl, hb⟩; refine ⟨_, rfl, ?_⟩; replace HO_11 := ak (Kd.R_below (by (with_reducible repeat (first | apply Kd.R_alloc | apply Kd.R_drewN | apply Kd.R_drew)); exact (Kd.R_mono (Kd.R_far (p := ⟨gb457, 3, none⟩) (Kd.R_far (p := ⟨gb457, 2, none⟩) (Kd.R_far (p := ⟨gb457, 1, none⟩) (Kd.R_far (p := ⟨gb457, 0, none⟩) (Kd.R_types HO_11.out BK457.out (by decide)) (fun _ hk => hk.2) (.string ((rd_T147 l0 x20_1).f0))) (fun _ hk => hk.2) (.int .i64 ((rd_T147 l0 x20_1).f1))) (fun _ hk => hk.2) (.int .i64 ((rd_T147 l0 x20_1).f2))) (fun _ hk => hk.2) (.bool ((rd_T147 l0 x20_1).f3))) (fun _ h_ => h_.1))) hb); replace BK454 := bf1 BK454 NB454_457 hb; replace BK457 := ak (blk_below (g := gb457) (o := .cells #[.string ((rd_T147 l0 x20_1).f0), .int .i64 ((rd_T147 l0 x20_1).f1), .int .i64 ((rd_T147 l0 x20_1).f2), .bool ((rd_T147 l0 x20_1).f3)] 147 (0, 0)) (by (with_reducible repeat (first | refine blk_drewN ?_ _ | refine blk_drew ?_ | refine blk_alloc ?_ _)); refine blk_put (cs := #[.string ((rd_T147 l0 x20_1).f0), .int .i64 ((rd_T147 l0 x20_1).f1), .int .i64 ((rd_T147 l0 x20_1).f2), .bool false]) ?_ 3 _ rfl; (with_reducible repeat (first | refine blk_drewN ?_ _ | refine blk_drew ?_ | refine blk_alloc ?_ _)); refine blk_put (cs := #[.string ((rd_T147 l0 x20_1).f0), .int .i64 ((rd_T147 l0 x20_1).f1), .int .i64 0, .bool false]) ?_ 2 _ rfl; (with_reducible repeat (first | refine blk_drewN ?_ _ | refine blk_drew ?_ | refine blk_alloc ?_ _)); refine blk_put (cs := #[.string ((rd_T147 l0 x20_1).f0), .int .i64 0, .int .i64 0, .bool false]) ?_ 1 _ rfl; (with_reducible repeat (first | refine blk_drewN ?_ _ | refine blk_drew ?_ | refine blk_alloc ?_ _)); refine blk_put (cs := #[.string (⟨#[]⟩ : ByteArray), .int .i64 0, .int .i64 0, .bool false]) ?_ 0 _ rfl; (with_reducible repeat (first | refine blk_drewN ?_ _ | refine blk_drew ?_ | refine blk_alloc ?_ _)); exact BK457.out) hb); replace HB := ak (below_step (bl2 GE454 GE457) hb); (try clear hb); (try clear hb2); (try clear hk); (try clear hi)))
             go_ret
             exact ⟨_, ew, by first | exact Kd.R_nil _ _ _ _ _ | exact Kd.N_nil _ _ _ _ _ | exact Kd.V_nil _ _ _ _ _ | exact Kd.Q_nil _ _ _ _ _ | exact Kd.S_nil _ _ _ _ _, bl2 GE454 GE457⟩
           · rw [if_neg c14] at H
             have c14b0 : decide (t458 < 0) = false := decide_eq_false c14
             clear c14
             by_cases c20 : x11_1.length < 17592186044416
             · rw [if_pos c20] at H
               have LMc20 := Aside0.mk c20
               clear c20
               obtain ⟨y459, hy459⟩ : ∃ y_ : List Int, y_ = (x11_1 ++ [t458]) := ⟨_, rfl⟩
               replace H : (impl_ClassesOf.l0 k1 l1 a2 a3 y459 l0 (l0.length : Int) (wrap64 (x20_1 + 1)) a4_0 a4_1 a4_2) = some r := by first | (rw [hy459]; with_reducible exact H) | (have H2_ := (Option.bind_some _ _).symm.trans H; rw [hy459]; with_reducible exact H2_) | (have H2_ := (Option.bind_some _ _).symm.trans H; with_reducible exact H2_) | with_reducible exact H | (rw [hy459]; exact H) | exact H
               have Ny459 := Aside0.mk hy459
               clear hy459
               have H' := Aside0.mk H
               clear H
               have p456 : 0 ≤ (x20_1 : Int) := of_decide_eq_true am
               have q456 : x20_1 < (l0.length : Int) := of_decide_eq_true am
               obtain ⟨ad456, e456, hx456_0, hx456_1, hx456_2, hx456_3⟩ := at_T147 HR0.out x20_1 p456 q456
               cases e456
               replace hx456_0 := cw hx456_0
               replace hx456_1 := cw hx456_1
               replace hx456_2 := cw hx456_2
               replace hx456_3 := cw hx456_3
               replace p456 := eq_true p456
               replace q456 := eq_true q456
               go_wp2_with (first | ((with_reducible refine gate_dst (N := 13) rfl ?_); refine bx 13 #[.string (⟨#[]⟩ : ByteArray), .int .i64 0, .int .i64 0, .bool false] 147 ?_; intro gb457 hg w21 hbox hb; replace HO_11 := ak (Kd.R_below (kr HO_11) hb); have BK457 := ak hbox; have GW457 := gs hg (bl1 GE454); have GE457 := gs hg (bl1 GE454); replace HB := ak (below_step (bl1 GE454) hb); have NB454_457 := nl hg BK454; have NB457_454 := ng hg BK454; replace BK454 := bb BK454 hb; clear hb hbox hg; have hnb22 := NB457_454.out; have hnc22 := NB454_457.out; obtain ⟨hcz23_0, hcz23_1, hcz23_2, hcz23_3, hfz23_0, hfz23_1, hfz23_2, hfz23_3⟩ := cz4 BK457; obtain ⟨hcz24_0, hcz24_1, hcz24_2, hfz24_0, hfz24_1, hfz24_2⟩ := cz3 BK454) | ((with_reducible refine gate_callee (f := 90) rfl ?_); refine gl (some 29) Try.func90 #[.agg #[.string ((rd_T147 l0 x20_1).f0), .int .i64 ((rd_T147 l0 x20_1).f1), .int .i64 ((rd_T147 l0 x20_1).f2), .bool ((rd_T147 l0 x20_1).f3)], .slice A1 l1.length c1, .string a2, .int .i64 a3, .agg #[.int .i64 a4_0, .int .i64 a4_1, .int .i64 a4_2]] ?_; (with_reducible refine (impl_ClassOf.calls k1 ((rd_T147 l0 x20_1).f0) ((rd_T147 l0 x20_1).f1) ((rd_T147 l0 x20_1).f2) ((rd_T147 l0 x20_1).f3) _ _ l1 a2 a3 a4_0 a4_1 a4_2 t458 _ ?side1 ?side2 A13.out).mono ?_); (case side1 => exact Kd.C_below HR1.out (bl2 GE454 GE457)); (case side2 => exact HC1.out); rintro e w25 ⟨rfl, hb⟩; refine ⟨_, rfl, ?_⟩; replace HO_11 := ak (Kd.R_below (by (with_reducible repeat (first | apply Kd.R_alloc | apply Kd.R_drewN | apply Kd.R_drew)); exact (Kd.R_mono (Kd.R_far (p := ⟨gb457, 3, none⟩) (Kd.R_far (p := ⟨gb457, 2, none⟩) (Kd.R_far (p := ⟨gb457, 1, none⟩) (Kd.R_far (p := ⟨gb457, 0, none⟩) (Kd.R_types HO_11.out BK457.out (by decide)) (fun _ hk => hk.2) (.string ((rd_T147 l0 x20_1).f0))) (fun _ hk => hk.2) (.int .i64 ((rd_T147 l0 x20_1).f1))) (fun _ hk => hk.2) (.int .i64 ((rd_T147 l0 x20_1).f2))) (fun _ hk => hk.2) (.bool ((rd_T147 l0 x20_1).f3))) (fun _ h_ => h_.1))) hb); replace BK454 := bf1 BK454 NB454_457 hb; replace BK457 := ak (blk_below (g := gb457) (o := .cells #[.string ((rd_T147 l0 x20_1).f0), .int .i64 ((rd_T147 l0 x20_1).f1), .int .i64 ((rd_T147 l0 x20_1).f2), .bool ((rd_T147 l0 x20_1).f3)] 147 (0, 0)) (by (with_reducible repeat (first | refine blk_drewN ?_ _ | refine blk_drew ?_ | refine blk_alloc ?_ _)); refine blk_put (cs := #[.string ((rd_T147 l0 x20_1).f0), .int .i64 ((rd_T147 l0 x20_1).f1), .int .i64 ((rd_T147 l0 x20_1).f2), .bool false]) ?_ 3 _ rfl; (with_reducible repeat (first | refine blk_drewN ?_ _ | refine blk_drew ?_ | refine blk_alloc ?_ _)); refine blk_put (cs := #[.string ((rd_T147 l0 x20_1).f0), .int .i64 ((rd_T147 l0 x20_1).f1), .int .i64 0, .bool false]) ?_ 2 _ rfl; (with_reducible repeat (first | refine blk_drewN ?_ _ | refine blk_drew ?_ | refine blk_alloc ?_ _)); refine blk_put (cs := #[.string ((rd_T147 l0 x20_1).f0), .int .i64 0, .int .i64 0, .bool false]) ?_ 1 _ rfl; (with_reducible repeat (first | refine blk_drewN ?_ _ | refine blk_drew ?_ | refine blk_alloc ?_ _)); refine blk_put (cs := #[.string (⟨#[]⟩ : ByteArray), .int .i64 0, .int .i64 0, .bool false]) ?_ 0 _ rfl; (with_reducible repeat (first | refine blk_drewN ?_ _ | refine blk_drew ?_ | refine blk_alloc ?_ _)); exact BK457.out) hb); replace HB := ak (below_step (bl2 GE454 GE457) hb); (try clear hb); (try clear hb2); (try clear hk); (try clear hi)) | ((with_reducible refine gate_builtin (b := .append) (xs := #[.tmp 32, .tmp 34]) rfl ?_); at_builtin; refine Kd.R_append (Kd.int .i64) (w0 := w) w.heap.size rfl (.tmp 32) (.tmp 34) 25 3 (.int .i64 0) 8 rfl Try.underlying25 info3 rfl (by decide) (by omega) u11 x11_1 t458 [.int .i64 t458] (fun _ => True) (fun _ => False) rfl rfl ?aP (fun _ hk => hk.elim) ?aF ?aO ?aB ?aS ?aL ?_; (case aP => exact rfl); (case aB => exact (bl2 GE454 GE457)); (case aF => exact (fun _ _ => trivial)); (case aO => exact (kr HO_11)); (case aS => exact (below_size (bl2 GE454 GE457))); (case aL => have := LMc20.out; omega); intro v460 w26 ho hb hg hat; rw [← Ny459.out] at ho; replace BK454 := ak (blk_grown (g := gb454) (o := .cells #[.int .i64 a4_0, .int .i64 a4_1, .int .i64 a4_2] 61 (0, 0)) (bk BK454) hg (Kd.R_ne HO_11.out BK454.out (by decide))); replace BK457 := ak (blk_grown (g := gb457) (o := .cells #[.string ((rd_T147 l0 x20_1).f0), .int .i64 ((rd_T147 l0 x20_1).f1), .int .i64 ((rd_T147 l0 x20_1).f2), .bool ((rd_T147 l0 x20_1).f3)] 147 (0, 0)) (bk BK457) hg (Kd.R_ne HO_11.out BK457.out (by decide))); replace HB := ak hb; have HO461 := ak ho; clear HO_11; clear ho hb hg hat))
               go_roundg k1
               case measure => have := HK1.out; omega
               case rel => exact ⟨(y459), (wrap64 (x20_1 + 1)), es, H', ⟨kp⟩, ⟨kr HO461⟩, ⟨bk BK454⟩, ⟨bl2 GE454 GE457⟩⟩
             · rw [if_neg c20] at H
               exact absurd H (by simp)
         · rw [if_neg c12] at H
           exact absurd H (by simp)
       · rw [if_neg c11] at H
         exact absurd H (by simp)
     · rw [if_neg c10] at H
       have c10b0 : decide (x20_1 < (l0.length : Int)) = false := decide_eq_false c10
       clear c10
       obtain rfl := Option.some.inj H
       go_wp2
       go_ret
       exact ⟨_, ew, kr HO_11, bl1 GE454⟩
 · replace c7 := Bool.eq_false_iff.mpr c7
   subst c7
   replace H := iF H
   obtain rfl := Option.some.inj H
   go_enter Try.func36, Try.ntmps36
   go_wp2_with (first | ((with_reducible refine gate_dst (N := 9) rfl ?_); refine bx 9 #[.int .i64 a4_0, .int .i64 a4_1, .int .i64 a4_2] 61 ?_; intro gb454 hg w27 hbox hb; have BK454 := ak hbox; have GW454 := gs hg bl; have GE454 := gs hg bl; replace HB := ak (below_step bl hb); clear hb hbox hg) | ((with_reducible refine gate_callee (f := 89) rfl ?_); refine gl (some 16) Try.func89 #[.slice A0 l0.length c0] ?_; (with_reducible refine (impl_PodsOk.calls k _ _ l0 false _ ?side1 ?side2 A6.out).mono ?_); (case side1 => exact cb HR0); (case side2 => exact HC0.out); rintro e w28 ⟨rfl, hb⟩; refine ⟨_, rfl, ?_⟩; replace BK454 := bb BK454 hb; replace HB := ak (below_step (bl1 GE454) hb); (try clear hb); (try clear hb2); (try clear hk); (try clear hi)))
   go_ret
   exact ⟨_, ew, by first | exact Kd.R_nil _ _ _ _ _ | exact Kd.N_nil _ _ _ _ _ | exact Kd.V_nil _ _ _ _ _ | exact Kd.Q_nil _ _ _ _ _ | exact Kd.S_nil _ _ _ _ _, bl1 GE454⟩

end Go.Proofs.Ytplekidnlofioaa.Q
namespace Go.Proofs.Ytplekidnlofioaa.Q
open Go.RowKit Go.Proofs.YtplekidnlofioaaW.PrintWords Go.Proofs.YtplekidnlofioaaW.PrintLast Go.Proofs.YtplekidnlofioaaW.PrintMore
attribute [local go_sem] max2_int min2_int max_two min_two max_three min_three max_four min_four   -- for this text's walks alone
set_option linter.unusedVariables false
set_option linter.unusedSimpArgs false

/-! ### spec_CountClass: function 101 -/
def spec_CountClass.l0 : Nat → List Int → Int → Int → Int → Option (Int)
 | 0, _, _, _, _ => none
 | k + 1, x0, x1, x5, x6 => if x6 < (x0.length : Int) then (if 0 ≤ x6 then (if (rd x0 x6) = x1 then (spec_CountClass.l0 k x0 x1 (wrap64 (x5 + 1)) (wrap64 (x6 + 1))) else (spec_CountClass.l0 k x0 x1 x5 (wrap64 (x6 + 1)))) else (none)) else (some x5)
def spec_CountClass.f (k : Nat) (l0 : List Int) (a1 : Int) : Option (Int) := spec_CountClass.l0 k l0 a1 0 0
theorem spec_CountClass.mono_l : ∀ k, (∀ y0 y1 y2 y3, LeO (spec_CountClass.l0 k y0 y1 y2 y3) (spec_CountClass.l0 (k + 1) y0 y1 y2 y3))
 | 0 => fun _ _ _ _ r h => by simp [spec_CountClass.l0] at h
 | k + 1 => by
  have ih0 := spec_CountClass.mono_l k
  · intro y0 y1 y2 y3
    unfold spec_CountClass.l0
    repeat' first
    | (with_reducible exact ih0 _ _ _ _)
    | (with_reducible exact LeO.refl _)
    | (with_reducible exact LeO.none _)
    | (with_reducible refine LeO.ite ?_ ?_)
    | (with_reducible refine LeO.bind ?_ (fun _ => ?_))
    | exact ih0 _ _ _ _
    | exact LeO.none _
    | refine LeO.ite ?_ ?_
    | refine LeO.bind ?_ (fun _ => ?_)
theorem spec_CountClass.mono : ∀ a0 a1 k, LeO (spec_CountClass.f k a0 a1) (spec_CountClass.f (k + 1) a0 a1) := by
 intro a0 a1 k
 have ih0 := spec_CountClass.mono_l k
 unfold spec_CountClass.f
 repeat' first
  | (with_reducible exact ih0 _ _ _ _)
  | (with_reducible exact LeO.refl _)
  | (with_reducible exact LeO.none _)
  | (with_reducible refine LeO.ite ?_ ?_)
  | (with_reducible refine LeO.bind ?_ (fun _ => ?_))
  | exact ih0 _ _ _ _
  | exact LeO.none _
  | refine LeO.ite ?_ ?_
  | refine LeO.bind ?_ (fun _ => ?_)
set_option maxHeartbeats 8000000 in
set_option maxRecDepth 100000 in
theorem spec_CountClass.calls (k : Nat) (A0 : Option Addr) (c0 : Nat) (l0 : List Int) (a1 : Int) (r : Int) (w : World) (hr0 : Kd.C (Kd.int .i64) w A0 l0.length l0) (hc0 : l0.length ≤ c0) (h : spec_CountClass.f k l0 a1 = some r) :
 Calls Try.prog 101 #[.slice A0 l0.length c0, .int .i64 a1] w fun e w' => e = .returned (.int .i64 r) ∧ Drawn0 w w' := by
 have HR0 := Aside0.mk hr0
 have HC0 := Aside0.mk hc0
 clear hr0 hc0
 have H : (spec_CountClass.l0 k l0 a1 0 0) = some r := h
 clear h
 have H' := Aside0.mk H
 clear H
 go_enter Try.func101, Try.ntmps101
 go_wp2
 go_loopg [5, 6] k (fun kq v5 v6 w' => ∃ (x5_1 : Int) (x6_1 : Int), v5 = .int .i64 x5_1 ∧ v6 = .int .i64 x6_1 ∧ Aside0 (spec_CountClass.l0 kq l0 a1 x5_1 x6_1 = some r) ∧ Aside0 (kq ≤ k) ∧ Drawn0 w w')
 case atStart => exact ⟨(0), (0), es, es, H', ⟨Nat.le_refl _⟩, dr0⟩
 case round =>
  clear H'
  try clear c1
  try clear p2
  obtain ⟨x5_1, x6_1, rfl, rfl, HA, HK1, ⟨m1, rfl⟩⟩ := hrel
  cases gk with
  | zero => exact absurd HA.out (by simp [spec_CountClass.l0])
  | succ k1 =>
   have H := HA.out
   clear HA
   simp only [spec_CountClass.l0] at H
   by_cases c3 : x6_1 < (l0.length : Int)
   · rw [if_pos c3] at H
     have c3b0 : decide (x6_1 < (l0.length : Int)) = true := decide_eq_true c3
     clear c3
     by_cases c4 : 0 ≤ x6_1
     · rw [if_pos c4] at H
       have c4b0 : decide (0 ≤ x6_1) = true := decide_eq_true c4
       clear c4
       by_cases c5 : (rd l0 x6_1) = a1
       · rw [if_pos c5] at H
         have c5b0 : ((rd l0 x6_1) == a1) = true := beq_iff_eq.mpr c5
         have c5b1 : ((rd l0 x6_1) != a1) = false := bne_eq_false_iff_eq.mpr c5
         clear c5
         have H' := Aside0.mk H
         clear H
         have p796 : 0 ≤ (x6_1 : Int) := of_decide_eq_true am
         have q796 : x6_1 < (l0.length : Int) := of_decide_eq_true am
         obtain ⟨ad796, e796, hx796_0⟩ := Kd.at_int HR0.out x6_1 p796 q796
         cases e796
         replace p796 := eq_true p796
         replace q796 := eq_true q796
         go_wp2
         go_roundg k1
         case measure => have := HK1.out; omega
         case rel => exact ⟨(wrap64 (x5_1 + 1)), (wrap64 (x6_1 + 1)), es, es, H', ⟨kp⟩, dr0⟩
       · rw [if_neg c5] at H
         have c5b0 : ((rd l0 x6_1) == a1) = false := beq_eq_false_iff_ne.mpr c5
         have c5b1 : ((rd l0 x6_1) != a1) = true := bne_iff_ne.mpr c5
         have H' := Aside0.mk H
         clear H
         have p796 : 0 ≤ (x6_1 : Int) := of_decide_eq_true am
         have q796 : x6_1 < (l0.length : Int) := of_decide_eq_true am
         obtain ⟨ad796, e796, hx796_0⟩ := Kd.at_int HR0.out x6_1 p796 q796
         cases e796
         replace p796 := eq_true p796
         replace q796 := eq_true q796
         go_wp2
         go_roundg k1
         case measure => have := HK1.out; omega
         case rel => exact ⟨(x5_1), (wrap64 (x6_1 + 1)), es, es, H', ⟨kp⟩, dr0⟩
     · rw [if_neg c4] at H
       exact absurd H (by simp)
   · rw [if_neg c3] at H
     have c3b0 : decide (x6_1 < (l0.length : Int)) = false := decide_eq_false c3
     clear c3
     obtain rfl := Option.some.inj H
     go_wp2
     go_ret
     exact ⟨es, dr0⟩

end Go.Proofs.Ytplekidnlofioaa.Q
namespace Go.Proofs.Ytplekidnlofioaa.Q
open Go.RowKit Go.Proofs.YtplekidnlofioaaW.PrintWords Go.Proofs.YtplekidnlofioaaW.PrintLast Go.Proofs.YtplekidnlofioaaW.PrintMore
attribute [local go_sem] max2_int min2_int max_two min_two max_three min_three max_four min_four   -- for this text's walks alone
set_option linter.unusedVariables false
set_option linter.unusedSimpArgs false

/-! ### impl_CountClass: function 107 -/
def impl_CountClass.l0 : Nat → Int → Int → List Int → Int → Int → Option (Int)
 | 0, _, _, _, _, _ => none
 | k + 1, x1, x5, x8, x9, x10 => if x10 < x9 then (if 0 ≤ x10 then (if x10 < (x8.length : Int) then (if (rd x8 x10) = x1 then (impl_CountClass.l0 k x1 (wrap64 (x5 + 1)) x8 x9 (wrap64 (x10 + 1))) else (impl_CountClass.l0 k x1 x5 x8 x9 (wrap64 (x10 + 1)))) else (none)) else (none)) else (some x5)
def impl_CountClass.f (k : Nat) (l0 : List Int) (a1 : Int) : Option (Int) := impl_CountClass.l0 k a1 0 l0 (l0.length : Int) 0
theorem impl_CountClass.mono_l : ∀ k, (∀ y0 y1 y2 y3 y4, LeO (impl_CountClass.l0 k y0 y1 y2 y3 y4) (impl_CountClass.l0 (k + 1) y0 y1 y2 y3 y4))
 | 0 => fun _ _ _ _ _ r h => by simp [impl_CountClass.l0] at h
 | k + 1 => by
  have ih0 := impl_CountClass.mono_l k
  · intro y0 y1 y2 y3 y4
    unfold impl_CountClass.l0
    repeat' first
    | (with_reducible exact ih0 _ _ _ _ _)
    | (with_reducible exact LeO.refl _)
    | (with_reducible exact LeO.none _)
    | (with_reducible refine LeO.ite ?_ ?_)
    | (with_reducible refine LeO.bind ?_ (fun _ => ?_))
    | exact ih0 _ _ _ _ _
    | exact LeO.none _
    | refine LeO.ite ?_ ?_
    | refine LeO.bind ?_ (fun _ => ?_)
theorem impl_CountClass.mono : ∀ a0 a1 k, LeO (impl_CountClass.f k a0 a1) (impl_CountClass.f (k + 1) a0 a1) := by
 intro a0 a1 k
 have ih0 := impl_CountClass.mono_l k
 unfold impl_CountClass.f
 repeat' first
  | (with_reducible exact ih0 _ _ _ _ _)
  | (with_reducible exact LeO.refl _)
  | (with_reducible exact LeO.none _)
  | (with_reducible refine LeO.ite ?_ ?_)
  | (with_reducible refine LeO.bind ?_ (fun _ => ?_))
  | exact ih0 _ _ _ _ _
  | exact LeO.none _
  | refine LeO.ite ?_ ?_
  | refine LeO.bind ?_ (fun _ => ?_)
set_option maxHeartbeats 8000000 in
set_option maxRecDepth 100000 in
theorem impl_CountClass.calls (k : Nat) (A0 : Option Addr) (c0 : Nat) (l0 : List Int) (a1 : Int) (r : Int) (w : World) (hr0 : Kd.C (Kd.int .i64) w A0 l0.length l0) (hc0 : l0.length ≤ c0) (h : impl_CountClass.f k l0 a1 = some r) :
 Calls Try.prog 107 #[.slice A0 l0.length c0, .int .i64 a1] w fun e w' => e = .returned (.int .i64 r) ∧ Drawn0 w w' := by
 have HR0 := Aside0.mk hr0
 have HC0 := Aside0.mk hc0
 clear hr0 hc0
 have H : (impl_CountClass.l0 k a1 0 l0 (l0.length : Int) 0) = some r := h
 clear h
 have H' := Aside0.mk H
 clear H
 go_enter Try.func107, Try.ntmps107
 go_wp2
 go_loopg [5, 10] k (fun kq v5 v10 w' => ∃ (x5_1 : Int) (x10_1 : Int), v5 = .int .i64 x5_1 ∧ v10 = .int .i64 x10_1 ∧ Aside0 (impl_CountClass.l0 kq a1 x5_1 l0 (l0.length : Int) x10_1 = some r) ∧ Aside0 (kq ≤ k) ∧ Drawn0 w w')
 case atStart => exact ⟨(0), (0), es, es, H', ⟨Nat.le_refl _⟩, dr0⟩
 case round =>
  clear H'
  try clear c1
  try clear p2
  obtain ⟨x5_1, x10_1, rfl, rfl, HA, HK1, ⟨m1, rfl⟩⟩ := hrel
  cases gk with
  | zero => exact absurd HA.out (by simp [impl_CountClass.l0])
  | succ k1 =>
   have H := HA.out
   clear HA
   simp only [impl_CountClass.l0] at H
   by_cases c3 : x10_1 < (l0.length : Int)
   · rw [if_pos c3] at H
     have c3b0 : decide (x10_1 < (l0.length : Int)) = true := decide_eq_true c3
     clear c3
     by_cases c4 : 0 ≤ x10_1
     · rw [if_pos c4] at H
       have c4b0 : decide (0 ≤ x10_1) = true := decide_eq_true c4
       clear c4
       by_cases c5 : x10_1 < (l0.length : Int)
       · rw [if_pos c5] at H
         have c5b0 : decide (x10_1 < (l0.length : Int)) = true := decide_eq_true c5
         clear c5
         by_cases c6 : (rd l0 x10_1) = a1
         · rw [if_pos c6] at H
           have c6b0 : ((rd l0 x10_1) == a1) = true := beq_iff_eq.mpr c6
           have c6b1 : ((rd l0 x10_1) != a1) = false := bne_eq_false_iff_eq.mpr c6
           clear c6
           have H' := Aside0.mk H
           clear H
           have p870 : 0 ≤ (x10_1 : Int) := of_decide_eq_true am
           have q870 : x10_1 < (l0.length : Int) := of_decide_eq_true am
           obtain ⟨ad870, e870, hx870_0⟩ := Kd.at_int HR0.out x10_1 p870 q870
           cases e870
           replace p870 := eq_true p870
           replace q870 := eq_true q870
           go_wp2
           go_roundg k1
           case measure => have := HK1.out; omega
           case rel => exact ⟨(wrap64 (x5_1 + 1)), (wrap64 (x10_1 + 1)), es, es, H', ⟨kp⟩, dr0⟩
         · rw [if_neg c6] at H
           have c6b0 : ((rd l0 x10_1) == a1) = false := beq_eq_false_iff_ne.mpr c6
           have c6b1 : ((rd l0 x10_1) != a1) = true := bne_iff_ne.mpr c6
           have H' := Aside0.mk H
           clear H
           have p870 : 0 ≤ (x10_1 : Int) := of_decide_eq_true am
           have q870 : x10_1 < (l0.length : Int) := of_decide_eq_true am
           obtain ⟨ad870, e870, hx870_0⟩ := Kd.at_int HR0.out x10_1 p870 q870
           cases e870
           replace p870 := eq_true p870
           replace q870 := eq_true q870
           go_wp2
           go_roundg k1
           case measure => have := HK1.out; omega
           case rel => exact ⟨(x5_1), (wrap64 (x10_1 + 1)), es, es, H', ⟨kp⟩, dr0⟩
       · rw [if_neg c5] at H
         exact absurd H (by simp)
     · rw [if_neg c4] at H
       exact absurd H (by simp)
   · rw [if_neg c3] at H
     have c3b0 : decide (x10_1 < (l0.length : Int)) = false := decide_eq_false c3
     clear c3
     obtain rfl := Option.some.inj H
     go_wp2
     go_ret
     exact ⟨es, dr0⟩

end Go.Proofs.Ytplekidnlofioaa.Q
namespace Go.Proofs.Ytplekidnlofioaa.Q
open Go.RowKit Go.Proofs.YtplekidnlofioaaW.PrintWords Go.Proofs.YtplekidnlofioaaW.PrintLast
def podOk (p : S147) : Bool := nameOk p.f0 && (inB p.f1 0 1000000000 && inB p.f2 0 2)
def poFrom : Option S147 → List S147 → Bool
  | _, [] => true
  | prev, p :: r => podOk p && (match prev with | none => true | some q => lessB q.f0 p.f0) && poFrom (some p) r
def podsOk (l : List S147) : Bool := decide ((l.length : Int) ≤ 12) && poFrom none l
def fitP (p : S147) : Prop := p.f0.size < 4611686018427387904
theorem rdPd_mid (pre suf : List S147) (p : S147) : rd_T147 (pre ++ p :: suf) (pre.length : Int) = p := by simp [rd_T147]
theorem spec_PodOk_ev (p : S147) : Ev (fun k => spec_PodOk.f k p.f0 p.f1 p.f2 p.f3) (podOk p) := by
  unfold spec_PodOk.f podOk
  refine Ev.bind (spec_NameOk_ev p.f0) ?_
  cases nameOk p.f0
  · simp only [if_neg no_ft, Bool.false_and]; exact Ev.now _
  · simp only [if_true, Bool.true_and, l02Tick_v, l01In_v, Option.bind_some]
    cases inB p.f1 0 1000000000
    · simp only [if_neg no_ft, Bool.false_and]; exact Ev.now _
    · simp only [if_true, Bool.true_and]; exact Ev.now _
theorem impl_PodOk_ev (p : S147) (h : fitP p) : Ev (fun k => impl_PodOk.f k p.f0 p.f1 p.f2 p.f3) (podOk p) := by
  unfold impl_PodOk.f podOk
  refine Ev.bind (impl_NameOk_ev p.f0 h) ?_
  cases nameOk p.f0
  · simp only [if_neg no_ft, Bool.false_and]; exact Ev.now _
  · simp only [if_true, Bool.true_and, isTick_v, in_v, Option.bind_some]
    cases inB p.f1 0 1000000000
    · simp only [if_neg no_ft, Bool.false_and]; exact Ev.now _
    · simp only [if_true, Bool.true_and]; exact Ev.now _
theorem spec_PodsOk_l0_ev (xs : List S147) (hx : xs.length < 4611686018427387904) (hf : ∀ s ∈ xs, fitP s) : ∀ suf pre, xs = pre ++ suf → Ev (fun k => spec_PodsOk.l0 k xs (pre.length : Int)) (poFrom pre.getLast? suf) := by
  intro suf
  induction suf with
  | nil =>
    intro pre h
    refine Ev.step (fun k => by rw [spec_PodsOk.l0]) ?_
    have hlt : ¬ ((pre.length : Int) < (xs.length : Int)) := by rw [h]; simp
    simp only [if_neg hlt, poFrom]
    exact Ev.now _
  | cons s suf ih =>
    intro pre h
    refine Ev.step (fun k => by rw [spec_PodsOk.l0]) ?_
    have hlt : ((pre.length : Int) < (xs.length : Int)) := by rw [h]; exact lt_mid _ _ _
    have hl : pre.length < xs.length := by omega
    have hw := wrapn pre.length (by omega)
    have hr := ih (pre ++ [s]) (by rw [h]; simp)
    rw [List.length_append, List.length_singleton, List.getLast?_concat] at hr
    have hrd : rd_T147 xs (pre.length : Int) = s := by rw [h]; exact rdPd_mid _ _ _
    simp only [if_pos hlt, if_pos (nn _), hrd, hw, poFrom]
    refine Ev.bind (spec_PodOk_ev s) ?_
    cases podOk s
    · simp only [if_neg no_ft, Bool.false_and]; exact Ev.now _
    · simp only [if_true, Bool.true_and]
      rcases List.eq_nil_or_concat pre with rfl | ⟨pre', q, rfl⟩
      · simp only [List.length_nil, List.getLast?_nil, Bool.true_and]
        simp only [show ¬ (((0 : Nat) : Int) > 0) from by decide, if_false]
        exact hr
      · rw [List.concat_eq_append] at *
        simp only [List.length_append, List.length_singleton, List.getLast?_concat] at *
        have hwp := wrap_pred pre'.length (by omega)
        have hq : rd_T147 xs (pre'.length : Int) = q := by rw [h]; rw [List.append_assoc]; exact rdPd_mid _ _ _
        have h1 : (((pre'.length + 1 : Nat)) : Int) > 0 := by omega
        have h2 : ((pre'.length : Nat) : Int) < (xs.length : Int) := by omega
        simp only [h1, if_true, hwp, if_pos (nn _), h2, hq]
        refine Ev.bind (spec_l02Less_ev q.f0 s.f0 (hf q (by rw [h]; simp))) ?_
        cases lessB q.f0 s.f0
        · simp only [if_neg no_ft, Bool.false_and]; exact Ev.now _
        · simp only [if_true, Bool.true_and]; exact hr
theorem spec_PodsOk_ev (xs : List S147) (hf : ∀ s ∈ xs, fitP s) : Ev (fun k => spec_PodsOk.f k xs) (podsOk xs) := by
  unfold spec_PodsOk.f podsOk
  by_cases c : (xs.length : Int) > 12
  · simp only [c, if_true, show decide ((xs.length : Int) ≤ 12) = false from by simp; omega, Bool.false_and]; exact Ev.now _
  · simp only [c, if_false, show decide ((xs.length : Int) ≤ 12) = true from by simp; omega, Bool.true_and]
    exact spec_PodsOk_l0_ev xs (by omega) hf xs [] rfl
theorem impl_PodsOk_l0_ev (xs : List S147) (hx : xs.length < 4611686018427387904) (hf : ∀ s ∈ xs, fitP s) : ∀ suf pre, xs = pre ++ suf → Ev (fun k => impl_PodsOk.l0 k xs xs (xs.length : Int) (pre.length : Int)) (poFrom pre.getLast? suf && decide ((xs.length : Int) ≤ 12)) := by
  intro suf
  induction suf with
  | nil =>
    intro pre h
    refine Ev.step (fun k => by rw [impl_PodsOk.l0]) ?_
    have hlt : ¬ ((pre.length : Int) < (xs.length : Int)) := by rw [h]; simp
    simp only [if_neg hlt, poFrom, Bool.true_and]
    exact Ev.now _
  | cons s suf ih =>
    intro pre h
    refine Ev.step (fun k => by rw [impl_PodsOk.l0]) ?_
    have hlt : ((pre.length : Int) < (xs.length : Int)) := by rw [h]; exact lt_mid _ _ _
    have hl : pre.length < xs.length := by omega
    have hw := wrapn pre.length (by omega)
    have hr := ih (pre ++ [s]) (by rw [h]; simp)
    rw [List.length_append, List.length_singleton, List.getLast?_concat] at hr
    have hrd : rd_T147 xs (pre.length : Int) = s := by rw [h]; exact rdPd_mid _ _ _
    simp only [if_pos hlt, if_pos (nn _), hrd, hw, poFrom]
    refine Ev.bind (impl_PodOk_ev s (hf s (by rw [h]; simp))) ?_
    cases podOk s
    · simp only [if_neg no_ft, Bool.false_and]; exact Ev.now _
    · simp only [if_true, Bool.true_and]
      rcases List.eq_nil_or_concat pre with rfl | ⟨pre', q, rfl⟩
      · simp only [List.length_nil, List.getLast?_nil, Bool.true_and]
        simp only [show ¬ (((0 : Nat) : Int) > 0) from by decide, if_false]
        exact hr
      · rw [List.concat_eq_append] at *
        simp only [List.length_append, List.length_singleton, List.getLast?_concat] at *
        have hwp := wrap_pred pre'.length (by omega)
        have hq : rd_T147 xs (pre'.length : Int) = q := by rw [h]; rw [List.append_assoc]; exact rdPd_mid _ _ _
        have h1 : (((pre'.length + 1 : Nat)) : Int) > 0 := by omega
        have h2 : ((pre'.length : Nat) : Int) < (xs.length : Int) := by omega
        simp only [h1, if_true, hwp, if_pos (nn _), h2, hq]
        unfold lessB
        cases Op.bytesLess q.f0.toList s.f0.toList
        · simp only [if_neg no_ft, Bool.false_and]; exact Ev.now _
        · simp only [if_true, Bool.true_and]; exact hr
theorem impl_PodsOk_ev (xs : List S147) (hx : xs.length < 4611686018427387904) (hf : ∀ s ∈ xs, fitP s) : Ev (fun k => impl_PodsOk.f k xs) (podsOk xs) := by
  unfold impl_PodsOk.f podsOk
  have := impl_PodsOk_l0_ev xs hx hf xs [] rfl
  rw [Bool.and_comm]
  exact this
def rulesOk (x y z : Int) : Bool := inB x 0 1000 && (inB y 0 1000 && inB z 0 1000)
theorem spec_RulesOk_v (x y z : Int) : spec_RulesOk.f x y z = some (rulesOk x y z) := by
  unfold spec_RulesOk.f rulesOk
  simp only [l01In_v, Option.bind_some]
  cases inB x 0 1000 <;> cases inB y 0 1000 <;> simp
theorem impl_RulesOk_v (x y z : Int) : impl_RulesOk.f x y z = some (rulesOk x y z) := by
  unfold impl_RulesOk.f rulesOk
  simp only [in_v, Option.bind_some]
  cases inB x 0 1000 <;> cases inB y 0 1000 <;> simp
def lastP (ps : List S37) : S37 := rd_T37 ps (wrap64 ((ps.length : Int) - 1))
def latV (l : List S81) (a b : ByteArray) : Int × Int × Bool := if (serOf l a b).2 = true then ((lastP (serOf l a b).1).f0, (lastP (serOf l a b).1).f1, true) else (0, 0, false)
theorem serOf_some {l : List S81} {a b : ByteArray} (h : (serOf l a b).2 = true) : 1 ≤ (serOf l a b).1.length := by
  unfold serOf at h ⊢
  cases hs : storeOk l
  · simp [hs] at h
  · rw [hs] at h
    simp only [if_true] at h ⊢
    cases h2 : l.find? (isNamed a b) with
    | none => rw [h2] at h; simp at h
    | some s => exact (serOk_len (storeOk_all hs s (find_mem h2))).1
theorem lat_idx {l : List S81} {a b : ByteArray} (h : (serOf l a b).2 = true) : 0 ≤ wrap64 (((serOf l a b).1.length : Int) - 1) ∧ wrap64 (((serOf l a b).1.length : Int) - 1) < ((serOf l a b).1.length : Int) := by
  have h1 := serOf_some h
  have h2 := serOf_len l a b
  rw [wrap_small _ (by omega) (by omega)]
  omega
theorem spec_LatestOf_ev (l : List S81) (hx : l.length < 4611686018427387904) (hf : ∀ s ∈ l, fitS s) (a b : ByteArray) : Ev (fun k => spec_LatestOf.f k l a b) (latV l a b) := by
  unfold spec_LatestOf.f latV lastP
  refine Ev.bind (spec_SeriesOf_ev l hx hf a b) ?_
  by_cases h : (serOf l a b).2 = true
  · have hi := lat_idx h
    simp only [if_pos h, if_pos hi.1, if_pos hi.2]; exact Ev.now _
  · simp only [if_neg h]; exact Ev.now _
theorem impl_LatestOf_ev (l : List S81) (hx : l.length < 4611686018427387904) (hf : ∀ s ∈ l, fitS s) (a b : ByteArray) : Ev (fun k => impl_LatestOf.f k l a b) (latV l a b) := by
  unfold impl_LatestOf.f latV lastP
  refine Ev.bind (impl_SeriesOf_ev l hx hf a b) ?_
  by_cases h : (serOf l a b).2 = true
  · have hi := lat_idx h
    simp only [if_pos h, if_pos hi.1, if_pos hi.2]; exact Ev.now _
  · simp only [if_neg h]; exact Ev.now _
def readyV (p : S147) (now x : Int) : Int := if p.f3 = true then (if wrap64 (p.f1 + x) > now then 1 else 0) else 1
def classV (p : S147) (l : List S81) (a : ByteArray) (now x y z : Int) : Int :=
  if (podOk p && (rulesOk x y z && (inB now 0 1000000000 && storeOk l))) = true then
    (if p.f2 = 0 then (if (latV l p.f0 a).2.2 = true then (if wrap64 ((latV l p.f0 a).1 + y) < now then 2 else readyV p now x) else 2) else 3)
  else -1
theorem spec_j1_ev (p : S147) (b : Bool) (now x y z : Int) : Ev (fun k => spec_ClassOf.j1 k now b p.f0 p.f1 p.f2 p.f3 x y z) (if b = true then 2 else readyV p now x) := by
  refine Ev.step (fun k => by rw [spec_ClassOf.j1]) ?_
  unfold readyV
  cases b
  · simp only [if_neg no_ft]
    cases p.f3
    · simp only [if_neg no_ft]; exact Ev.now _
    · simp only [if_true]
      split
      · exact Ev.now _
      · exact Ev.now _
  · simp only [if_true]; exact Ev.now _
theorem impl_j1_ev (p : S147) (b : Bool) (now x y z : Int) : Ev (fun k => impl_ClassOf.j1 k now b p.f0 p.f1 p.f2 p.f3 x y z) (if b = true then 2 else readyV p now x) := by
  refine Ev.step (fun k => by rw [impl_ClassOf.j1]) ?_
  unfold readyV
  cases b
  · simp only [if_neg no_ft]
    cases p.f3
    · simp only [if_neg no_ft]; exact Ev.now _
    · simp only [if_true]
      split
      · exact Ev.now _
      · exact Ev.now _
  · simp only [if_true]; exact Ev.now _
theorem spec_ClassOf_ev (p : S147) (l : List S81) (hx : l.length < 4611686018427387904) (hf : ∀ s ∈ l, fitS s) (a : ByteArray) (now x y z : Int) : Ev (fun k => spec_ClassOf.f k p.f0 p.f1 p.f2 p.f3 l a now x y z) (classV p l a now x y z) := by
  have hj : ∀ b : Bool, Ev (fun k => spec_ClassOf.j0 k l a now (!b) p.f0 p.f1 p.f2 p.f3 x y z) (if b = true then (if p.f2 = 0 then (if (latV l p.f0 a).2.2 = true then (if wrap64 ((latV l p.f0 a).1 + y) < now then 2 else readyV p now x) else 2) else 3) else -1) := by
    intro b
    refine Ev.step (fun k => by rw [spec_ClassOf.j0]) ?_
    cases b
    · simp only [Bool.not_false, if_true, if_neg no_ft]; exact Ev.now _
    · simp only [Bool.not_true, if_true, if_neg no_ft]
      by_cases c : p.f2 = 0
      · simp only [c, if_true]
        refine Ev.bind (spec_LatestOf_ev l hx hf p.f0 a) ?_
        cases (latV l p.f0 a).2.2
        · simp only [if_neg no_ft]
          have := spec_j1_ev p true now x y z
          rw [c] at this
          simp only [if_true] at this
          exact this
        · simp only [if_true]
          have := spec_j1_ev p (decide (wrap64 ((latV l p.f0 a).1 + y) < now)) now x y z
          rw [c] at this
          simp only [decide_eq_true_eq] at this
          exact this
      · simp only [c, if_false]; exact Ev.now _
  have hj0 := hj false
  have hj1 := hj true
  simp only [Bool.not_false, Bool.not_true, if_neg no_ft, if_true] at hj0 hj1
  unfold spec_ClassOf.f classV
  refine Ev.bind (spec_PodOk_ev p) ?_
  cases podOk p
  · simp only [if_neg no_ft, Bool.false_and]; exact hj0
  · simp only [if_true, Bool.true_and, spec_RulesOk_v, Option.bind_some]
    cases rulesOk x y z
    · simp only [if_neg no_ft, Bool.false_and]; exact hj0
    · simp only [if_true, Bool.true_and, l02Tick_v, Option.bind_some]
      cases inB now 0 1000000000
      · simp only [if_neg no_ft, Bool.false_and]; exact hj0
      · simp only [if_true, Bool.true_and]
        refine Ev.bind (spec_StoreOk_ev l hx hf) ?_
        exact hj _
theorem impl_ClassOf_ev (p : S147) (hp : fitP p) (l : List S81) (hx : l.length < 4611686018427387904) (hf : ∀ s ∈ l, fitS s) (a : ByteArray) (now x y z : Int) : Ev (fun k => impl_ClassOf.f k p.f0 p.f1 p.f2 p.f3 l a now x y z) (classV p l a now x y z) := by
  have hj : ∀ b : Bool, Ev (fun k => impl_ClassOf.j0 k l a now (!b) p.f0 p.f1 p.f2 p.f3 x y z) (if b = true then (if p.f2 = 0 then (if (latV l p.f0 a).2.2 = true then (if wrap64 ((latV l p.f0 a).1 + y) < now then 2 else readyV p now x) else 2) else 3) else -1) := by
    intro b
    refine Ev.step (fun k => by rw [impl_ClassOf.j0]) ?_
    cases b
    · simp only [Bool.not_false, if_true, if_neg no_ft]; exact Ev.now _
    · simp only [Bool.not_true, if_true, if_neg no_ft]
      refine Ev.bind (impl_LatestOf_ev l hx hf p.f0 a) ?_
      by_cases c : p.f2 = 0
      · simp only [c, if_true]
        cases (latV l p.f0 a).2.2
        · simp only [if_neg no_ft]
          have := impl_j1_ev p true now x y z
          rw [c] at this
          simp only [if_true] at this
          exact this
        · simp only [if_true]
          have := impl_j1_ev p (decide (wrap64 ((latV l p.f0 a).1 + y) < now)) now x y z
          rw [c] at this
          simp only [decide_eq_true_eq] at this
          exact this
      · simp only [c, if_false]; exact Ev.now _
  have hj0 := hj false
  have hj1 := hj true
  simp only [Bool.not_false, Bool.not_true, if_neg no_ft, if_true] at hj0 hj1
  unfold impl_ClassOf.f classV
  refine Ev.bind (impl_PodOk_ev p hp) ?_
  cases podOk p
  · simp only [if_neg no_ft, Bool.false_and]; exact hj0
  · simp only [if_true, Bool.true_and, impl_RulesOk_v, Option.bind_some]
    cases rulesOk x y z
    · simp only [if_neg no_ft, Bool.false_and]; exact hj0
    · simp only [if_true, Bool.true_and, isTick_v, Option.bind_some]
      cases inB now 0 1000000000
      · simp only [if_neg no_ft, Bool.false_and]; exact hj0
      · simp only [if_true, Bool.true_and]
        refine Ev.bind (impl_StoreOk_ev l hx hf) ?_
        exact hj _
def clsFrom (g : S147 → Int) : List Int → List S147 → List Int
  | acc, [] => acc
  | acc, p :: r => if g p < 0 then [] else clsFrom g (acc ++ [g p]) r
def classesV (ps : List S147) (l : List S81) (a : ByteArray) (now x y z : Int) : List Int := if podsOk ps = true then clsFrom (fun p => classV p l a now x y z) [] ps else []
theorem spec_Classes_l0_ev (ps : List S147) (hp : ps.length < 17592186044416) (l : List S81) (hx : l.length < 4611686018427387904) (hf : ∀ s ∈ l, fitS s) (a : ByteArray) (now x y z : Int) : ∀ suf pre (acc : List Int), ps = pre ++ suf → acc.length ≤ pre.length → Ev (fun k => spec_ClassesOf.l0 k ps l a now acc (pre.length : Int) x y z) (clsFrom (fun p => classV p l a now x y z) acc suf) := by
  intro suf
  induction suf with
  | nil =>
    intro pre acc h ha
    refine Ev.step (fun k => by rw [spec_ClassesOf.l0]) ?_
    have hlt : ¬ ((pre.length : Int) < (ps.length : Int)) := by rw [h]; simp
    simp only [if_neg hlt, clsFrom]
    exact Ev.now _
  | cons p suf ih =>
    intro pre acc h ha
    refine Ev.step (fun k => by rw [spec_ClassesOf.l0]) ?_
    have hlt : ((pre.length : Int) < (ps.length : Int)) := by rw [h]; exact lt_mid _ _ _
    have hw := wrapn pre.length (by omega)
    have hrd : rd_T147 ps (pre.length : Int) = p := by rw [h]; exact rdPd_mid _ _ _
    have hb : acc.length < 17592186044416 := by omega
    simp only [if_pos hlt, if_pos (nn _), hrd, hw, clsFrom, if_pos hb]
    refine Ev.bind (spec_ClassOf_ev p l hx hf a now x y z) ?_
    by_cases c : classV p l a now x y z < 0
    · simp only [c, if_true]; exact Ev.now _
    · simp only [c, if_false]
      have hr := ih (pre ++ [p]) (acc ++ [classV p l a now x y z]) (by rw [h]; simp) (by simp; omega)
      have e1 : (pre ++ [p]).length = pre.length + 1 := by simp
      rw [e1] at hr
      exact hr
theorem impl_Classes_l0_ev (ps : List S147) (hp : ps.length < 17592186044416) (hq : ∀ s ∈ ps, fitP s) (l : List S81) (hx : l.length < 4611686018427387904) (hf : ∀ s ∈ l, fitS s) (a : ByteArray) (now x y z : Int) : ∀ suf pre (acc : List Int), ps = pre ++ suf → acc.length ≤ pre.length → Ev (fun k => impl_ClassesOf.l0 k l a now acc ps (ps.length : Int) (pre.length : Int) x y z) (clsFrom (fun p => classV p l a now x y z) acc suf) := by
  intro suf
  induction suf with
  | nil =>
    intro pre acc h ha
    refine Ev.step (fun k => by rw [impl_ClassesOf.l0]) ?_
    have hlt : ¬ ((pre.length : Int) < (ps.length : Int)) := by rw [h]; simp
    simp only [if_neg hlt, clsFrom]
    exact Ev.now _
  | cons p suf ih =>
    intro pre acc h ha
    refine Ev.step (fun k => by rw [impl_ClassesOf.l0]) ?_
    have hlt : ((pre.length : Int) < (ps.length : Int)) := by rw [h]; exact lt_mid _ _ _
    have hw := wrapn pre.length (by omega)
    have hrd : rd_T147 ps (pre.length : Int) = p := by rw [h]; exact rdPd_mid _ _ _
    have hb : acc.length < 17592186044416 := by omega
    simp only [if_pos hlt, if_pos (nn _), hrd, hw, clsFrom, if_pos hb]
    refine Ev.bind (impl_ClassOf_ev p (hq p (by rw [h]; simp)) l hx hf a now x y z) ?_
    by_cases c : classV p l a now x y z < 0
    · simp only [c, if_true]; exact Ev.now _
    · simp only [c, if_false]
      have hr := ih (pre ++ [p]) (acc ++ [classV p l a now x y z]) (by rw [h]; simp) (by simp; omega)
      have e1 : (pre ++ [p]).length = pre.length + 1 := by simp
      rw [e1] at hr
      exact hr
theorem podsOk_len {ps : List S147} (h : podsOk ps = true) : ps.length ≤ 12 := by
  simp only [podsOk, Bool.and_eq_true, decide_eq_true_eq] at h
  omega
theorem spec_ClassesOf_ev (ps : List S147) (hq : ∀ s ∈ ps, fitP s) (l : List S81) (hx : l.length < 4611686018427387904) (hf : ∀ s ∈ l, fitS s) (a : ByteArray) (now x y z : Int) : Ev (fun k => spec_ClassesOf.f k ps l a now x y z) (classesV ps l a now x y z) := by
  unfold spec_ClassesOf.f classesV
  refine Ev.bind (spec_PodsOk_ev ps hq) ?_
  by_cases h : podsOk ps = true
  · simp only [if_pos h]
    have := podsOk_len h
    exact spec_Classes_l0_ev ps (by omega) l hx hf a now x y z ps [] [] rfl (Nat.le_refl _)
  · simp only [if_neg h]; exact Ev.now _
theorem impl_ClassesOf_ev (ps : List S147) (hp : ps.length < 4611686018427387904) (hq : ∀ s ∈ ps, fitP s) (l : List S81) (hx : l.length < 4611686018427387904) (hf : ∀ s ∈ l, fitS s) (a : ByteArray) (now x y z : Int) : Ev (fun k => impl_ClassesOf.f k ps l a now x y z) (classesV ps l a now x y z) := by
  unfold impl_ClassesOf.f classesV
  refine Ev.bind (impl_PodsOk_ev ps hp hq) ?_
  by_cases h : podsOk ps = true
  · simp only [if_pos h]
    have := podsOk_len h
    exact impl_Classes_l0_ev ps (by omega) hq l hx hf a now x y z ps [] [] rfl (Nat.le_refl _)
  · simp only [if_neg h]; exact Ev.now _
theorem clsFrom_len (g : S147 → Int) : ∀ (r : List S147) (acc : List Int), (clsFrom g acc r).length ≤ acc.length + r.length
  | [], acc => by simp [clsFrom]
  | p :: r, acc => by
    simp only [clsFrom]
    split
    · simp
    · have := clsFrom_len g r (acc ++ [g p])
      simp only [List.length_append, List.length_cons, List.length_nil] at this ⊢
      omega
theorem classesV_len (ps : List S147) (l : List S81) (a : ByteArray) (now x y z : Int) : (classesV ps l a now x y z).length ≤ ps.length := by
  unfold classesV
  split
  · have := clsFrom_len (fun p => classV p l a now x y z) ps []
    simp only [List.length_nil] at this
    omega
  · simp
end Go.Proofs.Ytplekidnlofioaa.Q
namespace Go.Proofs.Ytplekidnlofioaa.Q
open Go.RowKit Go.Proofs.YtplekidnlofioaaW.PrintWords Go.Proofs.YtplekidnlofioaaW.PrintLast Go.Proofs.YtplekidnlofioaaW.PrintMore
attribute [local go_sem] max2_int min2_int max_two min_two max_three min_three max_four min_four   -- for this text's walks alone
set_option linter.unusedVariables false
set_option linter.unusedSimpArgs false

/-! ### laws_szPod: function 85 -/
def laws_szPod.f (a0_0 : ByteArray) (a0_1 : Int) (a0_2 : Int) (a0_3 : Bool) (a1 : Int) : Option (Int) := if (wrap64 (a1 - (a0_0.size : Int))) < 0 then (some (-1)) else (some (wrap64 (a1 - (a0_0.size : Int))))
set_option maxHeartbeats 8000000 in
set_option maxRecDepth 100000 in
theorem laws_szPod.calls (a0_0 : ByteArray) (a0_1 : Int) (a0_2 : Int) (a0_3 : Bool) (a1 : Int) (r : Int) (w : World) (h : laws_szPod.f a0_0 a0_1 a0_2 a0_3 a1 = some r) :
 Calls Try.prog 85 #[.agg #[.string a0_0, .int .i64 a0_1, .int .i64 a0_2, .bool a0_3], .int .i64 a1] w fun e w' => e = .returned (.int .i64 r) ∧ Below w.heap.size w w' := by
 have hu144 := Try.underlying144
 have HB := Aside0.mk (Below.refl w.heap.size w)
 have H : (if (wrap64 (a1 - (a0_0.size : Int))) < 0 then (some (-1)) else (some (wrap64 (a1 - (a0_0.size : Int))))) = some r := h
 clear h
 by_cases c3 : (wrap64 (a1 - (a0_0.size : Int))) < 0
 · rw [if_pos c3] at H
   have c3b0 : decide ((wrap64 (a1 - (a0_0.size : Int))) < 0) = true := decide_eq_true c3
   clear c3
   obtain rfl := Option.some.inj H
   go_enter Try.func85, Try.ntmps85
   go_wp2_with (first | ((with_reducible refine gate_dst (N := 2) rfl ?_); refine bx 2 #[.string a0_0, .int .i64 a0_1, .int .i64 a0_2, .bool a0_3] 144 ?_; intro gb367 hg w4 hbox hb; have BK367 := ak hbox; have GW367 := gs hg bl; have GE367 := gs hg bl; replace HB := ak (below_step bl hb); clear hb hbox hg; obtain ⟨hcz5_0, hcz5_1, hcz5_2, hcz5_3, hfz5_0, hfz5_1, hfz5_2, hfz5_3⟩ := cz4 BK367))
   go_ret
   exact ⟨ew, bl1 GE367⟩
 · rw [if_neg c3] at H
   have c3b0 : decide ((wrap64 (a1 - (a0_0.size : Int))) < 0) = false := decide_eq_false c3
   clear c3
   obtain rfl := Option.some.inj H
   go_enter Try.func85, Try.ntmps85
   go_wp2_with (first | ((with_reducible refine gate_dst (N := 2) rfl ?_); refine bx 2 #[.string a0_0, .int .i64 a0_1, .int .i64 a0_2, .bool a0_3] 144 ?_; intro gb367 hg w6 hbox hb; have BK367 := ak hbox; have GW367 := gs hg bl; have GE367 := gs hg bl; replace HB := ak (below_step bl hb); clear hb hbox hg; obtain ⟨hcz7_0, hcz7_1, hcz7_2, hcz7_3, hfz7_0, hfz7_1, hfz7_2, hfz7_3⟩ := cz4 BK367))
   go_ret
   exact ⟨ew, bl1 GE367⟩

end Go.Proofs.Ytplekidnlofioaa.Q
namespace Go.Proofs.Ytplekidnlofioaa.Q
open Go.RowKit Go.Proofs.YtplekidnlofioaaW.PrintWords Go.Proofs.YtplekidnlofioaaW.PrintLast Go.Proofs.YtplekidnlofioaaW.PrintMore
attribute [local go_sem] max2_int min2_int max_two min_two max_three min_three max_four min_four   -- for this text's walks alone
set_option linter.unusedVariables false
set_option linter.unusedSimpArgs false

/-! ### laws_szPodS: function 32 -/
def laws_szPodS.l0 : Nat → List (S144) → Int → Int → Option (Int)
 | 0, _, _, _ => none
 | k + 1, x0, x1, x5 => if x5 < (x0.length : Int) then (if 0 ≤ x5 then ((laws_szPod.f ((rd_T144 x0 x5).f0) ((rd_T144 x0 x5).f1) ((rd_T144 x0 x5).f2) ((rd_T144 x0 x5).f3) x1).bind fun t369 => (if t369 < 0 then (some (-1)) else (laws_szPodS.l0 k x0 t369 (wrap64 (x5 + 1))))) else (none)) else (some x1)
def laws_szPodS.f (k : Nat) (l0 : List (S144)) (a1 : Int) : Option (Int) := if (wrap64 (a1 - (l0.length : Int))) < 0 then (some (-1)) else (laws_szPodS.l0 k l0 (wrap64 (a1 - (l0.length : Int))) 0)
theorem laws_szPodS.mono_l : ∀ k, (∀ y0 y1 y2, LeO (laws_szPodS.l0 k y0 y1 y2) (laws_szPodS.l0 (k + 1) y0 y1 y2))
 | 0 => fun _ _ _ r h => by simp [laws_szPodS.l0] at h
 | k + 1 => by
  have ih0 := laws_szPodS.mono_l k
  · intro y0 y1 y2
    unfold laws_szPodS.l0
    repeat' first
    | (with_reducible exact ih0 _ _ _)
    | (with_reducible exact LeO.refl _)
    | (with_reducible exact LeO.none _)
    | (with_reducible refine LeO.ite ?_ ?_)
    | (with_reducible refine LeO.bind ?_ (fun _ => ?_))
    | exact ih0 _ _ _
    | exact LeO.none _
    | refine LeO.ite ?_ ?_
    | refine LeO.bind ?_ (fun _ => ?_)
theorem laws_szPodS.mono : ∀ a0 a1 k, LeO (laws_szPodS.f k a0 a1) (laws_szPodS.f (k + 1) a0 a1) := by
 intro a0 a1 k
 have ih0 := laws_szPodS.mono_l k
 unfold laws_szPodS.f
 repeat' first
  | (with_reducible exact ih0 _ _ _)
  | (with_reducible exact LeO.refl _)
  | (with_reducible exact LeO.none _)
  | (with_reducible refine LeO.ite ?_ ?_)
  | (with_reducible refine LeO.bind ?_ (fun _ => ?_))
  | exact ih0 _ _ _
  | exact LeO.none _
  | refine LeO.ite ?_ ?_
  | refine LeO.bind ?_ (fun _ => ?_)
set_option maxHeartbeats 8000000 in
set_option maxRecDepth 100000 in
theorem laws_szPodS.calls (k : Nat) (A0 : Option Addr) (c0 : Nat) (l0 : List (S144)) (a1 : Int) (r : Int) (w : World) (hr0 : Kd.C k144 w A0 l0.length l0) (hc0 : l0.length ≤ c0) (h : laws_szPodS.f k l0 a1 = some r) :
 Calls Try.prog 32 #[.slice A0 l0.length c0, .int .i64 a1] w fun e w' => e = .returned (.int .i64 r) ∧ Below w.heap.size w w' := by
 have hu144 := Try.underlying144
 have HR0 := Aside0.mk hr0
 have HC0 := Aside0.mk hc0
 clear hr0 hc0
 have HB := Aside0.mk (Below.refl w.heap.size w)
 have H : (if (wrap64 (a1 - (l0.length : Int))) < 0 then (some (-1)) else (laws_szPodS.l0 k l0 (wrap64 (a1 - (l0.length : Int))) 0)) = some r := h
 clear h
 by_cases c3 : (wrap64 (a1 - (l0.length : Int))) < 0
 · rw [if_pos c3] at H
   have c3b0 : decide ((wrap64 (a1 - (l0.length : Int))) < 0) = true := decide_eq_true c3
   clear c3
   obtain rfl := Option.some.inj H
   go_enter Try.func32, Try.ntmps32
   go_wp2
   go_ret
   exact ⟨ew, bl⟩
 · rw [if_neg c3] at H
   have c3b0 : decide ((wrap64 (a1 - (l0.length : Int))) < 0) = false := decide_eq_false c3
   clear c3
   have H' := Aside0.mk H
   clear H
   go_enter Try.func32, Try.ntmps32
   go_wp2
   go_loopg [1, 5] k (fun kq v1 v5 w' => ∃ (x1_1 : Int) (x5_1 : Int), v1 = .int .i64 x1_1 ∧ v5 = .int .i64 x5_1 ∧ Aside0 (laws_szPodS.l0 kq l0 x1_1 x5_1 = some r) ∧ Aside0 (kq ≤ k) ∧ Aside0 (Below w.heap.size w w'))
   case atStart => exact ⟨(wrap64 (a1 - (l0.length : Int))), (0), es, es, H', ⟨Nat.le_refl _⟩, ⟨bl⟩⟩
   case round =>
    clear H'
    try clear p2
    try clear c3
    try clear c3b0
    obtain ⟨x1_1, x5_1, rfl, rfl, HA, HK1, HB⟩ := hrel
    cases gk with
    | zero => exact absurd HA.out (by simp [laws_szPodS.l0])
    | succ k1 =>
     have H := HA.out
     clear HA
     simp only [laws_szPodS.l0] at H
     by_cases c4 : x5_1 < (l0.length : Int)
     · rw [if_pos c4] at H
       have c4b0 : decide (x5_1 < (l0.length : Int)) = true := decide_eq_true c4
       clear c4
       by_cases c5 : 0 ≤ x5_1
       · rw [if_pos c5] at H
         have c5b0 : decide (0 ≤ x5_1) = true := decide_eq_true c5
         clear c5
         obtain ⟨t369, A60, H⟩ := bo H
         have A6 := Aside0.mk A60
         clear A60
         by_cases c7 : t369 < 0
         · rw [if_pos c7] at H
           have c7b0 : decide (t369 < 0) = true := decide_eq_true c7
           clear c7
           obtain rfl := Option.some.inj H
           have p368 : 0 ≤ (x5_1 : Int) := of_decide_eq_true am
           have q368 : x5_1 < (l0.length : Int) := of_decide_eq_true am
           obtain ⟨ad368, e368, hx368_0, hx368_1, hx368_2, hx368_3⟩ := at_T144 HR0.out x5_1 p368 q368
           cases e368
           replace hx368_0 := cw hx368_0
           replace hx368_1 := cw hx368_1
           replace hx368_2 := cw hx368_2
           replace hx368_3 := cw hx368_3
           replace p368 := eq_true p368
           replace q368 := eq_true q368
           go_wp2_with (first | ((with_reducible refine gate_callee (f := 85) rfl ?_); refine gl (some 23) Try.func85 #[.agg #[.string ((rd_T144 l0 x5_1).f0), .int .i64 ((rd_T144 l0 x5_1).f1), .int .i64 ((rd_T144 l0 x5_1).f2), .bool ((rd_T144 l0 x5_1).f3)], .int .i64 x1_1] ?_; (with_reducible refine (laws_szPod.calls ((rd_T144 l0 x5_1).f0) ((rd_T144 l0 x5_1).f1) ((rd_T144 l0 x5_1).f2) ((rd_T144 l0 x5_1).f3) x1_1 t369 _ A6.out).mono ?_); rintro e w8 ⟨rfl, hb⟩; refine ⟨_, rfl, ?_⟩; replace HB := ak (below_step bl hb); (try clear hb); (try clear hb2); (try clear hk); (try clear hi)))
           go_ret
           exact ⟨ew, bl⟩
         · rw [if_neg c7] at H
           have c7b0 : decide (t369 < 0) = false := decide_eq_false c7
           clear c7
           have H' := Aside0.mk H
           clear H
           have p368 : 0 ≤ (x5_1 : Int) := of_decide_eq_true am
           have q368 : x5_1 < (l0.length : Int) := of_decide_eq_true am
           obtain ⟨ad368, e368, hx368_0, hx368_1, hx368_2, hx368_3⟩ := at_T144 HR0.out x5_1 p368 q368
           cases e368
           replace hx368_0 := cw hx368_0
           replace hx368_1 := cw hx368_1
           replace hx368_2 := cw hx368_2
           replace hx368_3 := cw hx368_3
           replace p368 := eq_true p368
           replace q368 := eq_true q368
           go_wp2_with (first | ((with_reducible refine gate_callee (f := 85) rfl ?_); refine gl (some 23) Try.func85 #[.agg #[.string ((rd_T144 l0 x5_1).f0), .int .i64 ((rd_T144 l0 x5_1).f1), .int .i64 ((rd_T144 l0 x5_1).f2), .bool ((rd_T144 l0 x5_1).f3)], .int .i64 x1_1] ?_; (with_reducible refine (laws_szPod.calls ((rd_T144 l0 x5_1).f0) ((rd_T144 l0 x5_1).f1) ((rd_T144 l0 x5_1).f2) ((rd_T144 l0 x5_1).f3) x1_1 t369 _ A6.out).mono ?_); rintro e w9 ⟨rfl, hb⟩; refine ⟨_, rfl, ?_⟩; replace HB := ak (below_step bl hb); (try clear hb); (try clear hb2); (try clear hk); (try clear hi)))
           go_roundg k1
           case measure => have := HK1.out; omega
           case rel => exact ⟨(t369), (wrap64 (x5_1 + 1)), es, es, H', ⟨kp⟩, ⟨bl⟩⟩
       · rw [if_neg c5] at H
         exact absurd H (by simp)
     · rw [if_neg c4] at H
       have c4b0 : decide (x5_1 < (l0.length : Int)) = false := decide_eq_false c4
       clear c4
       obtain rfl := Option.some.inj H
       go_wp2
       go_ret
       exact ⟨ew, bl⟩

end Go.Proofs.Ytplekidnlofioaa.Q
namespace Go.Proofs.Ytplekidnlofioaa.Q
open Go.RowKit Go.Proofs.YtplekidnlofioaaW.PrintWords Go.Proofs.YtplekidnlofioaaW.PrintLast Go.Proofs.YtplekidnlofioaaW.PrintMore
attribute [local go_sem] max2_int min2_int max_two min_two max_three min_three max_four min_four   -- for this text's walks alone
set_option linter.unusedVariables false
set_option linter.unusedSimpArgs false

/-! ### laws_toPod: function 88 -/
def laws_toPod.f (a0_0 : ByteArray) (a0_1 : Int) (a0_2 : Int) (a0_3 : Bool) : Option (ByteArray × Int × Int × Bool) := some (a0_0, a0_1, a0_2, a0_3)
set_option maxHeartbeats 8000000 in
set_option maxRecDepth 100000 in
theorem laws_toPod.calls (a0_0 : ByteArray) (a0_1 : Int) (a0_2 : Int) (a0_3 : Bool) (r1 : ByteArray) (r2 : Int) (r3 : Int) (r4 : Bool) (w : World) (h : laws_toPod.f a0_0 a0_1 a0_2 a0_3 = some (r1, r2, r3, r4)) :
 Calls Try.prog 88 #[.agg #[.string a0_0, .int .i64 a0_1, .int .i64 a0_2, .bool a0_3]] w fun e w' => e = .returned (.agg #[.string r1, .int .i64 r2, .int .i64 r3, .bool r4]) ∧ Below w.heap.size w w' := by
 have hu144 := Try.underlying144
 have hu147 := Try.underlying147
 have HB := Aside0.mk (Below.refl w.heap.size w)
 have H : (some (a0_0, a0_1, a0_2, a0_3)) = some (r1, r2, r3, r4) := h
 clear h
 simp only [Option.some.injEq, Prod.mk.injEq] at H
 obtain ⟨rfl, rfl, rfl, rfl⟩ := H
 go_enter Try.func88, Try.ntmps88
 go_wp2_with (first | ((with_reducible refine gate_dst (N := 1) rfl ?_); refine bx 1 #[.string a0_0, .int .i64 a0_1, .int .i64 a0_2, .bool a0_3] 144 ?_; intro gb417 hg w2 hbox hb; have BK417 := ak hbox; have GW417 := gs hg bl; have GE417 := gs hg bl; replace HB := ak (below_step bl hb); clear hb hbox hg) | ((with_reducible refine gate_dst (N := 2) rfl ?_); refine bx 2 #[.string (⟨#[]⟩ : ByteArray), .int .i64 0, .int .i64 0, .bool false] 147 ?_; intro gb418 hg w3 hbox hb; have BK418 := ak hbox; have GW418 := gs hg (bl1 GE417); have GE418 := gs hg (bl1 GE417); replace HB := ak (below_step (bl1 GE417) hb); have NB417_418 := nl hg BK417; have NB418_417 := ng hg BK417; replace BK417 := bb BK417 hb; clear hb hbox hg) | ((with_reducible refine gate_dst (N := 3) rfl ?_); refine bx 3 #[.string (⟨#[]⟩ : ByteArray), .int .i64 0, .int .i64 0, .bool false] 147 ?_; intro gb419 hg w4 hbox hb; have BK419 := ak hbox; have GW419 := gs hg (bl2 GE417 GE418); have GE419 := gs hg (bl2 GE417 GE418); replace HB := ak (below_step (bl2 GE417 GE418) hb); have NB417_419 := nl hg BK417; have NB419_417 := ng hg BK417; replace BK417 := bb BK417 hb; have NB418_419 := nl hg BK418; have NB419_418 := ng hg BK418; replace BK418 := bb BK418 hb; clear hb hbox hg; have hnb5 := NB417_418.out; have hnc5 := NB418_417.out; have hnb6 := NB417_419.out; have hnc6 := NB419_417.out; obtain ⟨hcz7_0, hcz7_1, hcz7_2, hcz7_3, hfz7_0, hfz7_1, hfz7_2, hfz7_3⟩ := cz4 BK417; have hnb8 := NB419_418.out; have hnc8 := NB418_419.out; obtain ⟨hcz9_0, hcz9_1, hcz9_2, hcz9_3, hfz9_0, hfz9_1, hfz9_2, hfz9_3⟩ := cz4 BK419; obtain ⟨hcz10_0, hcz10_1, hcz10_2, hcz10_3, hfz10_0, hfz10_1, hfz10_2, hfz10_3⟩ := cz4 BK418))
 refine bodyPost_ret (results_cell_row rfl _ _ gb418 147 #[.string a0_0, .int .i64 a0_1, .int .i64 a0_2, .bool a0_3] (0, 0) _ rfl (by (with_reducible repeat (first | refine blk_drewN ?_ _ | refine blk_drew ?_ | refine blk_alloc ?_ _)); refine blk_put (cs := #[.string a0_0, .int .i64 a0_1, .int .i64 a0_2, .bool false]) ?_ 3 _ rfl; (with_reducible repeat (first | refine blk_drewN ?_ _ | refine blk_drew ?_ | refine blk_alloc ?_ _)); refine blk_put (cs := #[.string a0_0, .int .i64 a0_1, .int .i64 0, .bool false]) ?_ 2 _ rfl; (with_reducible repeat (first | refine blk_drewN ?_ _ | refine blk_drew ?_ | refine blk_alloc ?_ _)); refine blk_put (cs := #[.string a0_0, .int .i64 0, .int .i64 0, .bool false]) ?_ 1 _ rfl; (with_reducible repeat (first | refine blk_drewN ?_ _ | refine blk_drew ?_ | refine blk_alloc ?_ _)); refine blk_put (cs := #[.string (⟨#[]⟩ : ByteArray), .int .i64 0, .int .i64 0, .bool false]) ?_ 0 _ rfl; (with_reducible repeat (first | refine blk_drewN ?_ _ | refine blk_drew ?_ | refine blk_alloc ?_ _)); refine blk_far ?_ NB418_419.out _; (with_reducible repeat (first | refine blk_drewN ?_ _ | refine blk_drew ?_ | refine blk_alloc ?_ _)); refine blk_far ?_ NB418_419.out _; (with_reducible repeat (first | refine blk_drewN ?_ _ | refine blk_drew ?_ | refine blk_alloc ?_ _)); refine blk_far ?_ NB418_419.out _; (with_reducible repeat (first | refine blk_drewN ?_ _ | refine blk_drew ?_ | refine blk_alloc ?_ _)); refine blk_far ?_ NB418_419.out _; (with_reducible repeat (first | refine blk_drewN ?_ _ | refine blk_drew ?_ | refine blk_alloc ?_ _)); exact BK418.out) Try.underlying147 rfl (by kernel_rfl)) rfl ?_
 exact ⟨ew, bl3 GE417 GE418 GE419⟩

end Go.Proofs.Ytplekidnlofioaa.Q
namespace Go.Proofs.Ytplekidnlofioaa.Q
open Go.RowKit Go.Proofs.YtplekidnlofioaaW.PrintWords Go.Proofs.YtplekidnlofioaaW.PrintLast Go.Proofs.YtplekidnlofioaaW.PrintMore
attribute [local go_sem] max2_int min2_int max_two min_two max_three min_three max_four min_four   -- for this text's walks alone
set_option linter.unusedVariables false
set_option linter.unusedSimpArgs false

/-! ### laws_toPodS: function 34 -/
def laws_toPodS.l0 : Nat → List (S144) → List (S147) → Int → Option ((List (S147)))
 | 0, _, _, _ => none
 | k + 1, x0, x3, x4 => if x4 < (x0.length : Int) then (if 0 ≤ x4 then ((laws_toPod.f ((rd_T144 x0 x4).f0) ((rd_T144 x0 x4).f1) ((rd_T144 x0 x4).f2) ((rd_T144 x0 x4).f3)).bind fun bt424 => (if x4 < (x3.length : Int) then (laws_toPodS.l0 k x0 (x3.set (x4 : Int).toNat (⟨bt424.1, bt424.2.1, bt424.2.2.1, bt424.2.2.2⟩ : S147)) (wrap64 (x4 + 1))) else (none))) else (none)) else (some x3)
def laws_toPodS.f (k : Nat) (l0 : List (S144)) : Option ((List (S147))) := if 0 ≤ (l0.length : Int) then (if ((l0.length : Int) : Int).toNat ≤ 7036874417766 then (laws_toPodS.l0 k l0 (List.replicate ((l0.length : Int) : Int).toNat z147) 0) else (none)) else (none)
theorem laws_toPodS.mono_l : ∀ k, (∀ y0 y1 y2, LeO (laws_toPodS.l0 k y0 y1 y2) (laws_toPodS.l0 (k + 1) y0 y1 y2))
 | 0 => fun _ _ _ r h => by simp [laws_toPodS.l0] at h
 | k + 1 => by
  have ih0 := laws_toPodS.mono_l k
  · intro y0 y1 y2
    unfold laws_toPodS.l0
    repeat' first
    | (with_reducible exact ih0 _ _ _)
    | (with_reducible exact LeO.refl _)
    | (with_reducible exact LeO.none _)
    | (with_reducible refine LeO.ite ?_ ?_)
    | (with_reducible refine LeO.bind ?_ (fun _ => ?_))
    | exact ih0 _ _ _
    | exact LeO.none _
    | refine LeO.ite ?_ ?_
    | refine LeO.bind ?_ (fun _ => ?_)
theorem laws_toPodS.mono : ∀ a0 k, LeO (laws_toPodS.f k a0) (laws_toPodS.f (k + 1) a0) := by
 intro a0 k
 have ih0 := laws_toPodS.mono_l k
 unfold laws_toPodS.f
 repeat' first
  | (with_reducible exact ih0 _ _ _)
  | (with_reducible exact LeO.refl _)
  | (with_reducible exact LeO.none _)
  | (with_reducible refine LeO.ite ?_ ?_)
  | (with_reducible refine LeO.bind ?_ (fun _ => ?_))
  | exact ih0 _ _ _
  | exact LeO.none _
  | refine LeO.ite ?_ ?_
  | refine LeO.bind ?_ (fun _ => ?_)
set_option maxHeartbeats 8000000 in
set_option maxRecDepth 100000 in
theorem laws_toPodS.calls (k : Nat) (A0 : Option Addr) (c0 : Nat) (l0 : List (S144)) (r : List (S147)) (w : World) (hr0 : Kd.C k144 w A0 l0.length l0) (hc0 : l0.length ≤ c0) (h : laws_toPodS.f k l0 = some r) :
 Calls Try.prog 34 #[.slice A0 l0.length c0] w fun e w' => ∃ v0_ : Value, e = .returned (v0_) ∧ Kd.R k147 147 w' w.heap.size (fun _ => True) v0_ r ∧ Below w.heap.size w w' := by
 have hu144 := Try.underlying144
 have hu147 := Try.underlying147
 have HR0 := Aside0.mk hr0
 have HC0 := Aside0.mk hc0
 clear hr0 hc0
 have HB := Aside0.mk (Below.refl w.heap.size w)
 have H : (if 0 ≤ (l0.length : Int) then (if ((l0.length : Int) : Int).toNat ≤ 7036874417766 then (laws_toPodS.l0 k l0 (List.replicate ((l0.length : Int) : Int).toNat z147) 0) else (none)) else (none)) = some r := h
 clear h
 by_cases c2 : 0 ≤ (l0.length : Int)
 · rw [if_pos c2] at H
   have c2b0 := eq_true c2
   have c2b1 : decide (0 ≤ (l0.length : Int)) = true := decide_eq_true c2
   clear c2
   by_cases c3 : ((l0.length : Int) : Int).toNat ≤ 7036874417766
   · rw [if_pos c3] at H
     have c3b0 := eq_true c3
     have c3b1 : decide (((l0.length : Int) : Int).toNat ≤ 7036874417766) = true := decide_eq_true c3
     clear c3
     obtain ⟨y420, hy420⟩ : ∃ y_ : List (S147), y_ = (List.replicate ((l0.length : Int) : Int).toNat z147) := ⟨_, rfl⟩
     replace H : (laws_toPodS.l0 k l0 y420 0) = some r := by first | (rw [hy420]; with_reducible exact H) | (have H2_ := (Option.bind_some _ _).symm.trans H; rw [hy420]; with_reducible exact H2_) | (have H2_ := (Option.bind_some _ _).symm.trans H; with_reducible exact H2_) | with_reducible exact H | (rw [hy420]; exact H) | exact H
     have Ny420 := Aside0.mk hy420
     clear hy420
     have H' := Aside0.mk H
     clear H
     go_enter Try.func34, Try.ntmps34
     go_wp2_with (first | ((with_reducible refine gate_dst (N := 7) rfl ?_); refine Kd.R_make k147 _ 147 rfl (N := 7) rfl 59 _ _ rfl (l0.length : Int) rfl rfl Try.underlying59 (.agg #[(.string ⟨#[]⟩), (.int .i64 0), (.int .i64 0), (.bool false)]) 40 info147 rfl (by decide) (by omega) z147 (ok := fun _ => True) (okp := fun _ => True) (k147_mkM _ _ _ z147 ) (fun _ hk => hk) trivial (of_decide_eq_true am) (Nat.le_trans (Nat.mul_le_mul_right _ (of_decide_eq_true am : (l0.length : Int).toNat ≤ 7036874417766)) (by omega)) (Below.refl _ _) (Nat.le_refl _) ?_; intro v421 w4 ho5 hb hg_ hnew_; clear hg_ hnew_; (first | rw [← Ny420.out] at ho5 | (simp only [Int.reduceToNat] at ho5; rw [← Ny420.out] at ho5)); have HO422 := ak (Kd.R_lower ho5 (below_size bl)); replace HB := ak (below_step bl hb); clear hb ho5))
     go_loopg [4] k (fun kq v4 w' => ∃ (x3_1 : List (S147)) (x4_1 : Int), v4 = .int .i64 x4_1 ∧ Aside0 (laws_toPodS.l0 kq l0 x3_1 x4_1 = some r) ∧ Aside0 (kq ≤ k) ∧ Aside0 (Kd.R k147 147 w' w.heap.size (fun _ => True) v421 x3_1) ∧ Aside0 (Below w.heap.size w w'))
     case atStart => exact ⟨(y420), (0), es, H', ⟨Nat.le_refl _⟩, ⟨kr HO422⟩, ⟨bl⟩⟩
     case round =>
      clear H'
      try clear c2
      try clear c2b0
      try clear c2b1
      try clear p2
      try clear c3
      try clear c3b0
      try clear c3b1
      obtain ⟨x3_1, x4_1, rfl, HA, HK1, HO_3, HB⟩ := hrel
      cases gk with
      | zero => exact absurd HA.out (by simp [laws_toPodS.l0])
      | succ k1 =>
       have H := HA.out
       clear HA
       simp only [laws_toPodS.l0] at H
       by_cases c6 : x4_1 < (l0.length : Int)
       · rw [if_pos c6] at H
         have c6b0 : decide (x4_1 < (l0.length : Int)) = true := decide_eq_true c6
         clear c6
         by_cases c7 : 0 ≤ x4_1
         · rw [if_pos c7] at H
           have c7b0 : decide (0 ≤ x4_1) = true := decide_eq_true c7
           clear c7
           replace H := Option.bind_eq_some_iff.mp H
           obtain ⟨⟨t424, t425, t426, t427⟩, A80, H⟩ := H
           replace H : (if x4_1 < (x3_1.length : Int) then (laws_toPodS.l0 k1 l0 (x3_1.set (x4_1 : Int).toNat (⟨t424, t425, t426, t427⟩ : S147)) (wrap64 (x4_1 + 1))) else (none)) = some r := H
           have A8 := Aside0.mk A80
           clear A80
           by_cases c9 : x4_1 < (x3_1.length : Int)
           · rw [if_pos c9] at H
             have c9b0 : decide (x4_1 < (x3_1.length : Int)) = true := decide_eq_true c9
             clear c9
             obtain ⟨y428, hy428⟩ : ∃ y_ : List (S147), y_ = (x3_1.set (x4_1 : Int).toNat (⟨t424, t425, t426, t427⟩ : S147)) := ⟨_, rfl⟩
             replace H : (laws_toPodS.l0 k1 l0 y428 (wrap64 (x4_1 + 1))) = some r := by first | (rw [hy428]; with_reducible exact H) | (have H2_ := (Option.bind_some _ _).symm.trans H; rw [hy428]; with_reducible exact H2_) | (have H2_ := (Option.bind_some _ _).symm.trans H; with_reducible exact H2_) | with_reducible exact H | (rw [hy428]; exact H) | exact H
             have Ny428 := Aside0.mk hy428
             clear hy428
             have H' := Aside0.mk H
             clear H
             have p423 : 0 ≤ (x4_1 : Int) := of_decide_eq_true am
             have q423 : x4_1 < (l0.length : Int) := of_decide_eq_true am
             obtain ⟨ad423, e423, hx423_0, hx423_1, hx423_2, hx423_3⟩ := at_T144 HR0.out x4_1 p423 q423
             cases e423
             replace hx423_0 := cw hx423_0
             replace hx423_1 := cw hx423_1
             replace hx423_2 := cw hx423_2
             replace hx423_3 := cw hx423_3
             replace p423 := eq_true p423
             replace q423 := eq_true q423
             go_wp2_with (first | ((with_reducible refine gate_callee (f := 88) rfl ?_); refine gl (some 20) Try.func88 #[.agg #[.string ((rd_T144 l0 x4_1).f0), .int .i64 ((rd_T144 l0 x4_1).f1), .int .i64 ((rd_T144 l0 x4_1).f2), .bool ((rd_T144 l0 x4_1).f3)]] ?_; (with_reducible refine (laws_toPod.calls ((rd_T144 l0 x4_1).f0) ((rd_T144 l0 x4_1).f1) ((rd_T144 l0 x4_1).f2) ((rd_T144 l0 x4_1).f3) t424 t425 t426 t427 _ A8.out).mono ?_); rintro e w11 ⟨rfl, hb⟩; refine ⟨_, rfl, ?_⟩; replace HO_3 := ak (Kd.R_below (kr HO_3) hb); replace HB := ak (below_step bl hb); (try clear hb); (try clear hb2); (try clear hk); (try clear hi); have p10 : 0 ≤ (x4_1 : Int) := of_decide_eq_true am; have q10 : (x4_1 : Int) < ((x3_1.length : Int) : Int) := of_decide_eq_true am; obtain ⟨go10, co10, eo10, gb10, gl10, cl10, HG10⟩ := Kd.R_form HO_3.out (by omega); (first | cases eo10 | (injection eo10 with ea_ en_ ec_; (first | subst ea_ | (injection ea_ with ea_; subst ea_)); subst ec_; clear en_)); have GB10 := Aside0.mk gb10; have GG10 := Aside0.mk HG10; clear gb10 gl10 HG10; obtain ⟨ce10, hcl10, hM10, hcc10, hfr10⟩ := Kd.R_elem HO_3.out z147 (x4_1 : Int) p10 q10; obtain rfl := k147_openM hM10; have hx10_0 : w11.cell? ⟨go10, (x4_1 : Int).toNat * 4, none⟩ = some (.string ((rd_T147 x3_1 x4_1).f0)) := hcc10 0 _ rfl; have hx10_1 : w11.cell? ⟨go10, (x4_1 : Int).toNat * 4 + 1, none⟩ = some (.int .i64 ((rd_T147 x3_1 x4_1).f1)) := hcc10 1 _ rfl; have hx10_2 : w11.cell? ⟨go10, (x4_1 : Int).toNat * 4 + 2, none⟩ = some (.int .i64 ((rd_T147 x3_1 x4_1).f2)) := hcc10 2 _ rfl; have hx10_3 : w11.cell? ⟨go10, (x4_1 : Int).toNat * 4 + 3, none⟩ = some (.bool ((rd_T147 x3_1 x4_1).f3)) := hcc10 3 _ rfl; have hf10_0 : w11.frozen? ⟨go10, (x4_1 : Int).toNat * 4, none⟩ = false := hfr10 0; have hf10_1 : w11.frozen? ⟨go10, (x4_1 : Int).toNat * 4 + 1, none⟩ = false := hfr10 1; have hf10_2 : w11.frozen? ⟨go10, (x4_1 : Int).toNat * 4 + 2, none⟩ = false := hfr10 2; have hf10_3 : w11.frozen? ⟨go10, (x4_1 : Int).toNat * 4 + 3, none⟩ = false := hfr10 3; clear hcl10 hcc10 hfr10 hM10; replace p10 := eq_true p10; replace q10 := eq_true q10; have HX12 := Aside0.mk (show Kd.R k147 147 w11 w.heap.size (fun _ => True) (.slice (some ⟨go10, 0, none⟩) x3_1.length co10) x3_1 from (kr HO_3)); obtain ⟨ce12, hcl12, hM12, hcc12, hfr12⟩ := Kd.R_elem HX12.out z147 (x4_1 : Int) (of_decide_eq_true am) (by have h_ : (x4_1 : Int) < ((x3_1.length : Int) : Int) := of_decide_eq_true am; first | exact h_ | (have e_ := (Kd.R_reads' HO_3.out).1; omega) | simpa using h_); obtain rfl := k147_openM hM12; have HP12 := Kd.R_seg HX12.out (x4_1 : Int) (of_decide_eq_true am) (by have h_ : (x4_1 : Int) < ((x3_1.length : Int) : Int) := of_decide_eq_true am; first | exact h_ | (have e_ := (Kd.R_reads' HO_3.out).1; omega) | simpa using h_) (seg := [.string t424, .int .i64 t425, .int .i64 t426, .bool t427]) (j := 0) hcl12 hcc12 (show 4 ≤ 4 from by decide) (x' := (⟨t424, t425, t426, t427⟩ : S147)) (k147_mkM _ _ _ (⟨t424, t425, t426, t427⟩ : S147) ) (fun _ hk => hk); have hx12_0 := hcc12 0 _ rfl; (try simp only [show (k147).sz = 4 from rfl, Nat.mul_one, Nat.add_zero] at hx12_0); have hf12_0 := hfr12 0; (try simp only [show (k147).sz = 4 from rfl, Nat.mul_one, Nat.add_zero] at hf12_0); have hx12_1 := hcc12 1 _ rfl; (try simp only [show (k147).sz = 4 from rfl, Nat.mul_one, Nat.add_zero] at hx12_1); have hf12_1 := hfr12 1; (try simp only [show (k147).sz = 4 from rfl, Nat.mul_one, Nat.add_zero] at hf12_1); have hx12_2 := hcc12 2 _ rfl; (try simp only [show (k147).sz = 4 from rfl, Nat.mul_one, Nat.add_zero] at hx12_2); have hf12_2 := hfr12 2; (try simp only [show (k147).sz = 4 from rfl, Nat.mul_one, Nat.add_zero] at hf12_2); have hx12_3 := hcc12 3 _ rfl; (try simp only [show (k147).sz = 4 from rfl, Nat.mul_one, Nat.add_zero] at hx12_3); have hf12_3 := hfr12 3; (try simp only [show (k147).sz = 4 from rfl, Nat.mul_one, Nat.add_zero] at hf12_3); clear hcl12 hcc12 hfr12 hM12) | ((with_reducible refine gate_store (t := 147) (p := 21) rfl ?_); refine store_event (t := 147) (p := 21) (v := ?vo_w13) (w1 := ((((w11.setCell ⟨go10, (x4_1 : Int).toNat * 4, none⟩ (.string t424)).setCell ⟨go10, (x4_1 : Int).toNat * 4 + 1, none⟩ (.int .i64 t425)).setCell ⟨go10, (x4_1 : Int).toNat * 4 + 2, none⟩ (.int .i64 t426)).setCell ⟨go10, (x4_1 : Int).toNat * 4 + 3, none⟩ (.bool t427))) ?hg ?ho ?hn ?hr ?_; (case ho => rfl); (case hg => rfl); (case hn => rfl); (case hr => first | (go_simp; done) | (go_simp; rfl)); intro w13 hw; have hg : w11.grownBy w13 (some go10) := (by rw [hw]; exact HP12.2); have hp_ : Kd.R k147 147 w13 w.heap.size (fun _ => True) (.slice (some ⟨go10, 0, none⟩) x3_1.length co10) y428 := (by rw [hw, Ny428.out]; exact HP12.1); clear HP12; replace HO_3 := ak hp_; replace HB := ak (by rw [hw]; exact below_set (below_set (below_set (below_set (HB.out) GB10.out) GB10.out) GB10.out) GB10.out : Below w.heap.size w w13); clear hg hw hp_))
             go_roundg k1
             case measure => have := HK1.out; omega
             case rel => exact ⟨(y428), (wrap64 (x4_1 + 1)), es, H', ⟨kp⟩, ⟨kr HO_3⟩, ⟨bl⟩⟩
           · rw [if_neg c9] at H
             exact absurd H (by simp)
         · rw [if_neg c7] at H
           exact absurd H (by simp)
       · rw [if_neg c6] at H
         have c6b0 : decide (x4_1 < (l0.length : Int)) = false := decide_eq_false c6
         clear c6
         obtain rfl := Option.some.inj H
         go_wp2
         go_ret
         exact ⟨_, ew, kr HO_3, bl⟩
   · rw [if_neg c3] at H
     exact absurd H (by simp)
 · rw [if_neg c2] at H
   exact absurd H (by simp)

end Go.Proofs.Ytplekidnlofioaa.Q
namespace Go.Proofs.Ytplekidnlofioaa.Q
open Go.RowKit Go.Proofs.YtplekidnlofioaaW.PrintWords Go.Proofs.YtplekidnlofioaaW.PrintLast Go.Proofs.YtplekidnlofioaaW.PrintMore
attribute [local go_sem] max2_int min2_int max_two min_two max_three min_three max_four min_four   -- for this text's walks alone
set_option linter.unusedVariables false
set_option linter.unusedSimpArgs false

/-! ### laws_eqPod: function 91 -/
def laws_eqPod.f (a0_0 : ByteArray) (a0_1 : Int) (a0_2 : Int) (a0_3 : Bool) (a1_0 : ByteArray) (a1_1 : Int) (a1_2 : Int) (a1_3 : Bool) : Option (Bool) := if a0_0.toList = a1_0.toList then (if a0_1 = a1_1 then (if a0_2 = a1_2 then (if (a0_3 != a1_3) = true then (some false) else (some true)) else (some false)) else (some false)) else (some false)
set_option maxHeartbeats 8000000 in
set_option maxRecDepth 100000 in
theorem laws_eqPod.calls (a0_0 : ByteArray) (a0_1 : Int) (a0_2 : Int) (a0_3 : Bool) (a1_0 : ByteArray) (a1_1 : Int) (a1_2 : Int) (a1_3 : Bool) (r : Bool) (w : World) (h : laws_eqPod.f a0_0 a0_1 a0_2 a0_3 a1_0 a1_1 a1_2 a1_3 = some r) :
 Calls Try.prog 91 #[.agg #[.string a0_0, .int .i64 a0_1, .int .i64 a0_2, .bool a0_3], .agg #[.string a1_0, .int .i64 a1_1, .int .i64 a1_2, .bool a1_3]] w fun e w' => e = .returned (.bool r) ∧ Below w.heap.size w w' := by
 have hu147 := Try.underlying147
 have HB := Aside0.mk (Below.refl w.heap.size w)
 have H : (if a0_0.toList = a1_0.toList then (if a0_1 = a1_1 then (if a0_2 = a1_2 then (if (a0_3 != a1_3) = true then (some false) else (some true)) else (some false)) else (some false)) else (some false)) = some r := h
 clear h
 by_cases c3 : a0_0.toList = a1_0.toList
 · rw [if_pos c3] at H
   have c3b0 : (a0_0.toList == a1_0.toList) = true := beq_iff_eq.mpr c3
   have c3b1 : (a0_0.toList != a1_0.toList) = false := bne_eq_false_iff_eq.mpr c3
   clear c3
   by_cases c4 : a0_1 = a1_1
   · rw [if_pos c4] at H
     have c4b0 : (a0_1 == a1_1) = true := beq_iff_eq.mpr c4
     have c4b1 : (a0_1 != a1_1) = false := bne_eq_false_iff_eq.mpr c4
     clear c4
     by_cases c5 : a0_2 = a1_2
     · rw [if_pos c5] at H
       have c5b0 : (a0_2 == a1_2) = true := beq_iff_eq.mpr c5
       have c5b1 : (a0_2 != a1_2) = false := bne_eq_false_iff_eq.mpr c5
       clear c5
       by_cases c6 : (a0_3 != a1_3) = true
       · rw [if_pos c6] at H
         have c6b0 : (a0_3 != a1_3) = true := c6
         (try (have c6b1 : decide (a0_3 = a1_3) = false := by simpa using c6))
         (try (have c6b2 : (a0_3 == a1_3) = false := by simpa using c6))
         (try (have c6b3 : ¬ (a0_3 = a1_3) := by simpa using c6))
         clear c6
         obtain rfl := Option.some.inj H
         go_enter Try.func91, Try.ntmps91
         go_wp2_with (first | ((with_reducible refine gate_dst (N := 2) rfl ?_); refine bx 2 #[.string a0_0, .int .i64 a0_1, .int .i64 a0_2, .bool a0_3] 147 ?_; intro gb464 hg w7 hbox hb; have BK464 := ak hbox; have GW464 := gs hg bl; have GE464 := gs hg bl; replace HB := ak (below_step bl hb); clear hb hbox hg) | ((with_reducible refine gate_dst (N := 3) rfl ?_); refine bx 3 #[.string a1_0, .int .i64 a1_1, .int .i64 a1_2, .bool a1_3] 147 ?_; intro gb465 hg w8 hbox hb; have BK465 := ak hbox; have GW465 := gs hg (bl1 GE464); have GE465 := gs hg (bl1 GE464); replace HB := ak (below_step (bl1 GE464) hb); have NB464_465 := nl hg BK464; have NB465_464 := ng hg BK464; replace BK464 := bb BK464 hb; clear hb hbox hg; have hnb9 := NB464_465.out; have hnc9 := NB465_464.out; obtain ⟨hcz10_0, hcz10_1, hcz10_2, hcz10_3, hfz10_0, hfz10_1, hfz10_2, hfz10_3⟩ := cz4 BK464; obtain ⟨hcz11_0, hcz11_1, hcz11_2, hcz11_3, hfz11_0, hfz11_1, hfz11_2, hfz11_3⟩ := cz4 BK465))
         go_ret
         exact ⟨ew, bl2 GE464 GE465⟩
       · rw [if_neg c6] at H
         have c6b0 : (a0_3 != a1_3) = false := by simpa using c6
         (try (have c6b1 : decide (a0_3 = a1_3) = true := by simpa using c6))
         (try (have c6b2 : (a0_3 == a1_3) = true := by simpa using c6))
         clear c6
         obtain rfl := Option.some.inj H
         go_enter Try.func91, Try.ntmps91
         go_wp2_with (first | ((with_reducible refine gate_dst (N := 2) rfl ?_); refine bx 2 #[.string a0_0, .int .i64 a0_1, .int .i64 a0_2, .bool a0_3] 147 ?_; intro gb464 hg w12 hbox hb; have BK464 := ak hbox; have GW464 := gs hg bl; have GE464 := gs hg bl; replace HB := ak (below_step bl hb); clear hb hbox hg) | ((with_reducible refine gate_dst (N := 3) rfl ?_); refine bx 3 #[.string a1_0, .int .i64 a1_1, .int .i64 a1_2, .bool a1_3] 147 ?_; intro gb465 hg w13 hbox hb; have BK465 := ak hbox; have GW465 := gs hg (bl1 GE464); have GE465 := gs hg (bl1 GE464); replace HB := ak (below_step (bl1 GE464) hb); have NB464_465 := nl hg BK464; have NB465_464 := ng hg BK464; replace BK464 := bb BK464 hb; clear hb hbox hg; have hnb14 := NB464_465.out; have hnc14 := NB465_464.out; obtain ⟨hcz15_0, hcz15_1, hcz15_2, hcz15_3, hfz15_0, hfz15_1, hfz15_2, hfz15_3⟩ := cz4 BK464; obtain ⟨hcz16_0, hcz16_1, hcz16_2, hcz16_3, hfz16_0, hfz16_1, hfz16_2, hfz16_3⟩ := cz4 BK465))
         go_ret
         exact ⟨ew, bl2 GE464 GE465⟩
     · rw [if_neg c5] at H
       have c5b0 : (a0_2 == a1_2) = false := beq_eq_false_iff_ne.mpr c5
       have c5b1 : (a0_2 != a1_2) = true := bne_iff_ne.mpr c5
       obtain rfl := Option.some.inj H
       go_enter Try.func91, Try.ntmps91
       go_wp2_with (first | ((with_reducible refine gate_dst (N := 2) rfl ?_); refine bx 2 #[.string a0_0, .int .i64 a0_1, .int .i64 a0_2, .bool a0_3] 147 ?_; intro gb464 hg w17 hbox hb; have BK464 := ak hbox; have GW464 := gs hg bl; have GE464 := gs hg bl; replace HB := ak (below_step bl hb); clear hb hbox hg) | ((with_reducible refine gate_dst (N := 3) rfl ?_); refine bx 3 #[.string a1_0, .int .i64 a1_1, .int .i64 a1_2, .bool a1_3] 147 ?_; intro gb465 hg w18 hbox hb; have BK465 := ak hbox; have GW465 := gs hg (bl1 GE464); have GE465 := gs hg (bl1 GE464); replace HB := ak (below_step (bl1 GE464) hb); have NB464_465 := nl hg BK464; have NB465_464 := ng hg BK464; replace BK464 := bb BK464 hb; clear hb hbox hg; have hnb19 := NB464_465.out; have hnc19 := NB465_464.out; obtain ⟨hcz20_0, hcz20_1, hcz20_2, hcz20_3, hfz20_0, hfz20_1, hfz20_2, hfz20_3⟩ := cz4 BK464; obtain ⟨hcz21_0, hcz21_1, hcz21_2, hcz21_3, hfz21_0, hfz21_1, hfz21_2, hfz21_3⟩ := cz4 BK465))
       go_ret
       exact ⟨ew, bl2 GE464 GE465⟩
   · rw [if_neg c4] at H
     have c4b0 : (a0_1 == a1_1) = false := beq_eq_false_iff_ne.mpr c4
     have c4b1 : (a0_1 != a1_1) = true := bne_iff_ne.mpr c4
     obtain rfl := Option.some.inj H
     go_enter Try.func91, Try.ntmps91
     go_wp2_with (first | ((with_reducible refine gate_dst (N := 2) rfl ?_); refine bx 2 #[.string a0_0, .int .i64 a0_1, .int .i64 a0_2, .bool a0_3] 147 ?_; intro gb464 hg w22 hbox hb; have BK464 := ak hbox; have GW464 := gs hg bl; have GE464 := gs hg bl; replace HB := ak (below_step bl hb); clear hb hbox hg) | ((with_reducible refine gate_dst (N := 3) rfl ?_); refine bx 3 #[.string a1_0, .int .i64 a1_1, .int .i64 a1_2, .bool a1_3] 147 ?_; intro gb465 hg w23 hbox hb; have BK465 := ak hbox; have GW465 := gs hg (bl1 GE464); have GE465 := gs hg (bl1 GE464); replace HB := ak (below_step (bl1 GE464) hb); have NB464_465 := nl hg BK464; have NB465_464 := ng hg BK464; replace BK464 := bb BK464 hb; clear hb hbox hg; have hnb24 := NB464_465.out; have hnc24 := NB465_464.out; obtain ⟨hcz25_0, hcz25_1, hcz25_2, hcz25_3, hfz25_0, hfz25_1, hfz25_2, hfz25_3⟩ := cz4 BK464; obtain ⟨hcz26_0, hcz26_1, hcz26_2, hcz26_3, hfz26_0, hfz26_1, hfz26_2, hfz26_3⟩ := cz4 BK465))
     go_ret
     exact ⟨ew, bl2 GE464 GE465⟩
 · rw [if_neg c3] at H
   have c3b0 : (a0_0.toList == a1_0.toList) = false := beq_eq_false_iff_ne.mpr c3
   have c3b1 : (a0_0.toList != a1_0.toList) = true := bne_iff_ne.mpr c3
   obtain rfl := Option.some.inj H
   go_enter Try.func91, Try.ntmps91
   go_wp2_with (first | ((with_reducible refine gate_dst (N := 2) rfl ?_); refine bx 2 #[.string a0_0, .int .i64 a0_1, .int .i64 a0_2, .bool a0_3] 147 ?_; intro gb464 hg w27 hbox hb; have BK464 := ak hbox; have GW464 := gs hg bl; have GE464 := gs hg bl; replace HB := ak (below_step bl hb); clear hb hbox hg) | ((with_reducible refine gate_dst (N := 3) rfl ?_); refine bx 3 #[.string a1_0, .int .i64 a1_1, .int .i64 a1_2, .bool a1_3] 147 ?_; intro gb465 hg w28 hbox hb; have BK465 := ak hbox; have GW465 := gs hg (bl1 GE464); have GE465 := gs hg (bl1 GE464); replace HB := ak (below_step (bl1 GE464) hb); have NB464_465 := nl hg BK464; have NB465_464 := ng hg BK464; replace BK464 := bb BK464 hb; clear hb hbox hg; have hnb29 := NB464_465.out; have hnc29 := NB465_464.out; obtain ⟨hcz30_0, hcz30_1, hcz30_2, hcz30_3, hfz30_0, hfz30_1, hfz30_2, hfz30_3⟩ := cz4 BK464; obtain ⟨hcz31_0, hcz31_1, hcz31_2, hcz31_3, hfz31_0, hfz31_1, hfz31_2, hfz31_3⟩ := cz4 BK465))
   go_ret
   exact ⟨ew, bl2 GE464 GE465⟩

end Go.Proofs.Ytplekidnlofioaa.Q
namespace Go.Proofs.Ytplekidnlofioaa.Q
open Go.RowKit Go.Proofs.YtplekidnlofioaaW.PrintWords Go.Proofs.YtplekidnlofioaaW.PrintLast Go.Proofs.YtplekidnlofioaaW.PrintMore
attribute [local go_sem] max2_int min2_int max_two min_two max_three min_three max_four min_four   -- for this text's walks alone
set_option linter.unusedVariables false
set_option linter.unusedSimpArgs false

/-! ### laws_eqPodS: function 38 -/
def laws_eqPodS.l0 : Nat → List (S147) → List (S147) → Int → Option (Bool)
 | 0, _, _, _ => none
 | k + 1, x0, x1, x5 => if x5 < (x0.length : Int) then (if 0 ≤ x5 then (if x5 < (x1.length : Int) then ((laws_eqPod.f ((rd_T147 x0 x5).f0) ((rd_T147 x0 x5).f1) ((rd_T147 x0 x5).f2) ((rd_T147 x0 x5).f3) ((rd_T147 x1 x5).f0) ((rd_T147 x1 x5).f1) ((rd_T147 x1 x5).f2) ((rd_T147 x1 x5).f3)).bind fun t468 => (if t468 = true then (laws_eqPodS.l0 k x0 x1 (wrap64 (x5 + 1))) else (some false))) else (none)) else (none)) else (some true)
def laws_eqPodS.f (k : Nat) (l0 : List (S147)) (l1 : List (S147)) : Option (Bool) := if (l0.length : Int) = (l1.length : Int) then (laws_eqPodS.l0 k l0 l1 0) else (some false)
theorem laws_eqPodS.mono_l : ∀ k, (∀ y0 y1 y2, LeO (laws_eqPodS.l0 k y0 y1 y2) (laws_eqPodS.l0 (k + 1) y0 y1 y2))
 | 0 => fun _ _ _ r h => by simp [laws_eqPodS.l0] at h
 | k + 1 => by
  have ih0 := laws_eqPodS.mono_l k
  · intro y0 y1 y2
    unfold laws_eqPodS.l0
    repeat' first
    | (with_reducible exact ih0 _ _ _)
    | (with_reducible exact LeO.refl _)
    | (with_reducible exact LeO.none _)
    | (with_reducible refine LeO.ite ?_ ?_)
    | (with_reducible refine LeO.bind ?_ (fun _ => ?_))
    | exact ih0 _ _ _
    | exact LeO.none _
    | refine LeO.ite ?_ ?_
    | refine LeO.bind ?_ (fun _ => ?_)
theorem laws_eqPodS.mono : ∀ a0 a1 k, LeO (laws_eqPodS.f k a0 a1) (laws_eqPodS.f (k + 1) a0 a1) := by
 intro a0 a1 k
 have ih0 := laws_eqPodS.mono_l k
 unfold laws_eqPodS.f
 repeat' first
  | (with_reducible exact ih0 _ _ _)
  | (with_reducible exact LeO.refl _)
  | (with_reducible exact LeO.none _)
  | (with_reducible refine LeO.ite ?_ ?_)
  | (with_reducible refine LeO.bind ?_ (fun _ => ?_))
  | exact ih0 _ _ _
  | exact LeO.none _
  | refine LeO.ite ?_ ?_
  | refine LeO.bind ?_ (fun _ => ?_)
def laws_eqPodS.T6 : Bool × List (List Nat × List Nat) := (true, [([], []), ([], []), ([0, 1], [0, 1]), ([2], [2]), ([], []), ([], []), ([4, 5], [4, 5]), ([6], [6]), ([3, 7], [3, 7]), ([8], [8])])
def laws_eqPodS.B6 : List Nat := [0, 0, 3, 7, 0, 0, 48, 112, 255, 511]
theorem laws_eqPodS.tab6 : rtab .any (opsOf Try.f38 6) = laws_eqPodS.T6 := by kernel_rfl
theorem laws_eqPodS.bits6 : waitsOk laws_eqPodS.T6.2 laws_eqPodS.B6 = true := by kernel_rfl
set_option maxHeartbeats 8000000 in
set_option maxRecDepth 100000 in
theorem laws_eqPodS.calls (k : Nat) (A0 : Option Addr) (c0 : Nat) (l0 : List (S147)) (A1 : Option Addr) (c1 : Nat) (l1 : List (S147)) (r : Bool) (w : World) (hr0 : Kd.C k147 w A0 l0.length l0) (hc0 : l0.length ≤ c0) (hr1 : Kd.C k147 w A1 l1.length l1) (hc1 : l1.length ≤ c1) (h : laws_eqPodS.f k l0 l1 = some r) :
 Calls Try.prog 38 #[.slice A0 l0.length c0, .slice A1 l1.length c1] w fun e w' => e = .returned (.bool r) ∧ Below w.heap.size w w' := by
 have hu147 := Try.underlying147
 have HR0 := Aside0.mk hr0
 have HC0 := Aside0.mk hc0
 clear hr0 hc0
 have HR1 := Aside0.mk hr1
 have HC1 := Aside0.mk hc1
 clear hr1 hc1
 have HB := Aside0.mk (Below.refl w.heap.size w)
 have H : (if (l0.length : Int) = (l1.length : Int) then (laws_eqPodS.l0 k l0 l1 0) else (some false)) = some r := h
 clear h
 by_cases c3 : (l0.length : Int) = (l1.length : Int)
 · rw [if_pos c3] at H
   have c3b0 : ((l0.length : Int) == (l1.length : Int)) = true := beq_iff_eq.mpr c3
   have c3b1 : ((l0.length : Int) != (l1.length : Int)) = false := bne_eq_false_iff_eq.mpr c3
   have c3b2 : (l0.length == l1.length) = true := by first | simpa using c3 | (simp at c3 ⊢; omega)
   clear c3
   have H' := Aside0.mk H
   clear H
   go_enter Try.func38, Try.ntmps38
   go_wp2
   go_loopg [5] k (fun kq v5 w' => ∃ (x5_1 : Int), v5 = .int .i64 x5_1 ∧ Aside0 (laws_eqPodS.l0 kq l0 l1 x5_1 = some r) ∧ Aside0 (kq ≤ k) ∧ Aside0 (Below w.heap.size w w'))
   case atStart => exact ⟨(0), es, H', ⟨Nat.le_refl _⟩, ⟨bl⟩⟩
   case round =>
    clear H'
    try clear c1
    try clear p2
    try clear c3
    try clear c3b0
    try clear c3b1
    try clear c3b2
    obtain ⟨x5_1, rfl, HA, HK1, HB⟩ := hrel
    cases gk with
    | zero => exact absurd HA.out (by simp [laws_eqPodS.l0])
    | succ k1 =>
     have H := HA.out
     clear HA
     simp only [laws_eqPodS.l0] at H
     by_cases c4 : x5_1 < (l0.length : Int)
     · rw [if_pos c4] at H
       have c4b0 : decide (x5_1 < (l0.length : Int)) = true := decide_eq_true c4
       clear c4
       by_cases c5 : 0 ≤ x5_1
       · rw [if_pos c5] at H
         have c5b0 : decide (0 ≤ x5_1) = true := decide_eq_true c5
         clear c5
         by_cases c6 : x5_1 < (l1.length : Int)
         · rw [if_pos c6] at H
           have c6b0 : decide (x5_1 < (l1.length : Int)) = true := decide_eq_true c6
           clear c6
           obtain ⟨t468, A70, H⟩ := bo H
           have A7 := Aside0.mk A70
           clear A70
           by_cases c8 : t468 = true
           · subst c8
             replace H := iT H
             have H' := Aside0.mk H
             clear H
             try go_wp2
             replace HB := ak (below_drew1 HB.out)
             have p466 : 0 ≤ (x5_1 : Int) := of_decide_eq_true am
             have q466 : x5_1 < (l0.length : Int) := of_decide_eq_true am
             obtain ⟨ad466, e466, hx466_0, hx466_1, hx466_2, hx466_3⟩ := at_T147 HR0.out x5_1 p466 q466
             have hw466_3 := hx466_3
             have hw466_2 := hx466_2
             have hw466_1 := hx466_1
             have hw466_0 := hx466_0
             cases e466
             replace hx466_0 := cw hx466_0
             replace hx466_1 := cw hx466_1
             replace hx466_2 := cw hx466_2
             replace hx466_3 := cw hx466_3
             replace p466 := eq_true p466
             replace q466 := eq_true q466
             have p467 : 0 ≤ (x5_1 : Int) := of_decide_eq_true am
             have q467 : x5_1 < (l1.length : Int) := of_decide_eq_true am
             obtain ⟨ad467, e467, hx467_0, hx467_1, hx467_2, hx467_3⟩ := at_T147 HR1.out x5_1 p467 q467
             have hw467_3 := hx467_3
             have hw467_2 := hx467_2
             have hw467_1 := hx467_1
             have hw467_0 := hx467_0
             cases e467
             replace hx467_0 := cw hx467_0
             replace hx467_1 := cw hx467_1
             replace hx467_2 := cw hx467_2
             replace hx467_3 := cw hx467_3
             replace p467 := eq_true p467
             replace q467 := eq_true q467
             refine start_ (n := 10) (S := fun w' => w'.cell? (ad466.add ((x5_1).toNat * 4)) = some (.string ((rd_T147 l0 x5_1).f0)) ∧ w'.cell? ⟨(ad466.add ((x5_1).toNat * 4)).block, (ad466.add ((x5_1).toNat * 4)).off + 1, none⟩ = some (.int .i64 ((rd_T147 l0 x5_1).f1)) ∧ w'.cell? ⟨(ad466.add ((x5_1).toNat * 4)).block, (ad466.add ((x5_1).toNat * 4)).off + 2, none⟩ = some (.int .i64 ((rd_T147 l0 x5_1).f2)) ∧ w'.cell? ⟨(ad466.add ((x5_1).toNat * 4)).block, (ad466.add ((x5_1).toNat * 4)).off + 3, none⟩ = some (.bool ((rd_T147 l0 x5_1).f3)) ∧ w'.cell? (ad467.add ((x5_1).toNat * 4)) = some (.string ((rd_T147 l1 x5_1).f0)) ∧ w'.cell? ⟨(ad467.add ((x5_1).toNat * 4)).block, (ad467.add ((x5_1).toNat * 4)).off + 1, none⟩ = some (.int .i64 ((rd_T147 l1 x5_1).f1)) ∧ w'.cell? ⟨(ad467.add ((x5_1).toNat * 4)).block, (ad467.add ((x5_1).toNat * 4)).off + 2, none⟩ = some (.int .i64 ((rd_T147 l1 x5_1).f2)) ∧ w'.cell? ⟨(ad467.add ((x5_1).toNat * 4)).block, (ad467.add ((x5_1).toNat * 4)).off + 3, none⟩ = some (.bool ((rd_T147 l1 x5_1).f3))) (ds := []) (bitsA 10 0) (by kernel_rfl) rfl rfl ⟨(cw hw466_0), (cw hw466_1), (cw hw466_2), (cw hw466_3), (cw hw467_0), (cw hw467_1), (cw hw467_2), (cw hw467_3)⟩ (fun hHeld => ?_); refine with_tabW laws_eqPodS.tab6 laws_eqPodS.bits6 (fun HT_ HW_ => ?_)
             generalize wr.drew = w9 at HB hx466_0 hx466_1 hx466_2 hx466_3 hx467_0 hx467_1 hx467_2 hx467_3 hHeld ⊢
             refine pu 0 (some 17) (bitsA 10 1) ?_
             refine pu 1 (some 18) (bitsA 10 3) ?_
             refine pu 2 (some 19) (bitsA 10 7) ?_
             refine tk 3 (some 20) (bitsA 10 15) hHeld ?_ (hy := Or.inl ⟨by rfl, by rintro w' ⟨s0, s1, s2, s3, s4, s5, s6, s7⟩; go_simp; with_reducible rfl⟩)
             refine pu 4 (some 21) (bitsA 10 31) ?_
             refine pu 5 (some 22) (bitsA 10 63) ?_
             refine pu 6 (some 23) (bitsA 10 127) ?_
             refine tk 7 (some 24) (bitsA 10 255) hHeld ?_ (hy := Or.inl ⟨by rfl, by rintro w' ⟨s0, s1, s2, s3, s4, s5, s6, s7⟩; go_simp; with_reducible rfl⟩)
             refine one_ (i := 8) (N := some 25) (bitsA 10 511) rfl rfl (one_of HT_.out (by kernel_rfl)) (by decide) (fun K hK => ?_)
             refine goes_ Try.func91 (by kernel_rfl) rfl #[.agg #[.string ((rd_T147 l0 x5_1).f0), .int .i64 ((rd_T147 l0 x5_1).f1), .int .i64 ((rd_T147 l0 x5_1).f2), .bool ((rd_T147 l0 x5_1).f3)], .agg #[.string ((rd_T147 l1 x5_1).f0), .int .i64 ((rd_T147 l1 x5_1).f1), .int .i64 ((rd_T147 l1 x5_1).f2), .bool ((rd_T147 l1 x5_1).f3)]] (by rfl) rfl rfl mt ?_
             with_reducible refine (laws_eqPod.calls ((rd_T147 l0 x5_1).f0) ((rd_T147 l0 x5_1).f1) ((rd_T147 l0 x5_1).f2) ((rd_T147 l0 x5_1).f3) ((rd_T147 l1 x5_1).f0) ((rd_T147 l1 x5_1).f1) ((rd_T147 l1 x5_1).f2) ((rd_T147 l1 x5_1).f3) true _ A7.out).mono ?_
             rintro e w10 ⟨rfl, hb⟩
             refine ⟨_, rfl, ?_⟩
             replace HB := ak (below_step bl hb)
             (try clear hb)
             (try clear hb2)
             (try clear hk)
             (try clear hi)
             refine hK.out _ _ ⟨(cw hw466_0), (cw hw466_1), (cw hw466_2), (cw hw466_3), (cw hw467_0), (cw hw467_1), (cw hw467_2), (cw hw467_3)⟩ (fun hHeld => ?_)
             clear hK K
             refine nm ?_
             refine pu 9 (some 26) (bitsA 10 1023) ?_
             refine done_ (done_of HT_.out (by kernel_rfl)) ?_
             try go_wp2
             go_roundg k1
             case measure => have := HK1.out; omega
             case rel => exact ⟨(wrap64 (x5_1 + 1)), es, H', ⟨kp⟩, ⟨bl⟩⟩
           · replace c8 := Bool.eq_false_iff.mpr c8
             subst c8
             replace H := iF H
             obtain rfl := Option.some.inj H
             try go_wp2
             replace HB := ak (below_drew1 HB.out)
             have p466 : 0 ≤ (x5_1 : Int) := of_decide_eq_true am
             have q466 : x5_1 < (l0.length : Int) := of_decide_eq_true am
             obtain ⟨ad466, e466, hx466_0, hx466_1, hx466_2, hx466_3⟩ := at_T147 HR0.out x5_1 p466 q466
             have hw466_3 := hx466_3
             have hw466_2 := hx466_2
             have hw466_1 := hx466_1
             have hw466_0 := hx466_0
             cases e466
             replace hx466_0 := cw hx466_0
             replace hx466_1 := cw hx466_1
             replace hx466_2 := cw hx466_2
             replace hx466_3 := cw hx466_3
             replace p466 := eq_true p466
             replace q466 := eq_true q466
             have p467 : 0 ≤ (x5_1 : Int) := of_decide_eq_true am
             have q467 : x5_1 < (l1.length : Int) := of_decide_eq_true am
             obtain ⟨ad467, e467, hx467_0, hx467_1, hx467_2, hx467_3⟩ := at_T147 HR1.out x5_1 p467 q467
             have hw467_3 := hx467_3
             have hw467_2 := hx467_2
             have hw467_1 := hx467_1
             have hw467_0 := hx467_0
             cases e467
             replace hx467_0 := cw hx467_0
             replace hx467_1 := cw hx467_1
             replace hx467_2 := cw hx467_2
             replace hx467_3 := cw hx467_3
             replace p467 := eq_true p467
             replace q467 := eq_true q467
             refine start_ (n := 10) (S := fun w' => w'.cell? (ad466.add ((x5_1).toNat * 4)) = some (.string ((rd_T147 l0 x5_1).f0)) ∧ w'.cell? ⟨(ad466.add ((x5_1).toNat * 4)).block, (ad466.add ((x5_1).toNat * 4)).off + 1, none⟩ = some (.int .i64 ((rd_T147 l0 x5_1).f1)) ∧ w'.cell? ⟨(ad466.add ((x5_1).toNat * 4)).block, (ad466.add ((x5_1).toNat * 4)).off + 2, none⟩ = some (.int .i64 ((rd_T147 l0 x5_1).f2)) ∧ w'.cell? ⟨(ad466.add ((x5_1).toNat * 4)).block, (ad466.add ((x5_1).toNat * 4)).off + 3, none⟩ = some (.bool ((rd_T147 l0 x5_1).f3)) ∧ w'.cell? (ad467.add ((x5_1).toNat * 4)) = some (.string ((rd_T147 l1 x5_1).f0)) ∧ w'.cell? ⟨(ad467.add ((x5_1).toNat * 4)).block, (ad467.add ((x5_1).toNat * 4)).off + 1, none⟩ = some (.int .i64 ((rd_T147 l1 x5_1).f1)) ∧ w'.cell? ⟨(ad467.add ((x5_1).toNat * 4)).block, (ad467.add ((x5_1).toNat * 4)).off + 2, none⟩ = some (.int .i64 ((rd_T147 l1 x5_1).f2)) ∧ w'.cell? ⟨(ad467.add ((x5_1).toNat * 4)).block, (ad467.add ((x5_1).toNat * 4)).off + 3, none⟩ = some (.bool ((rd_T147 l1 x5_1).f3))) (ds := []) (bitsA 10 0) (by kernel_rfl) rfl rfl ⟨(cw hw466_0), (cw hw466_1), (cw hw466_2), (cw hw466_3), (cw hw467_0), (cw hw467_1), (cw hw467_2), (cw hw467_3)⟩ (fun hHeld => ?_); refine with_tabW laws_eqPodS.tab6 laws_eqPodS.bits6 (fun HT_ HW_ => ?_)
             generalize wr.drew = w11 at HB hx466_0 hx466_1 hx466_2 hx466_3 hx467_0 hx467_1 hx467_2 hx467_3 hHeld ⊢
             refine pu 0 (some 17) (bitsA 10 1) ?_
             refine pu 1 (some 18) (bitsA 10 3) ?_
             refine pu 2 (some 19) (bitsA 10 7) ?_
             refine tk 3 (some 20) (bitsA 10 15) hHeld ?_ (hy := Or.inl ⟨by rfl, by rintro w' ⟨s0, s1, s2, s3, s4, s5, s6, s7⟩; go_simp; with_reducible rfl⟩)
             refine pu 4 (some 21) (bitsA 10 31) ?_
             refine pu 5 (some 22) (bitsA 10 63) ?_
             refine pu 6 (some 23) (bitsA 10 127) ?_
             refine tk 7 (some 24) (bitsA 10 255) hHeld ?_ (hy := Or.inl ⟨by rfl, by rintro w' ⟨s0, s1, s2, s3, s4, s5, s6, s7⟩; go_simp; with_reducible rfl⟩)
             refine one_ (i := 8) (N := some 25) (bitsA 10 511) rfl rfl (one_of HT_.out (by kernel_rfl)) (by decide) (fun K hK => ?_)
             refine goes_ Try.func91 (by kernel_rfl) rfl #[.agg #[.string ((rd_T147 l0 x5_1).f0), .int .i64 ((rd_T147 l0 x5_1).f1), .int .i64 ((rd_T147 l0 x5_1).f2), .bool ((rd_T147 l0 x5_1).f3)], .agg #[.string ((rd_T147 l1 x5_1).f0), .int .i64 ((rd_T147 l1 x5_1).f1), .int .i64 ((rd_T147 l1 x5_1).f2), .bool ((rd_T147 l1 x5_1).f3)]] (by rfl) rfl rfl mt ?_
             with_reducible refine (laws_eqPod.calls ((rd_T147 l0 x5_1).f0) ((rd_T147 l0 x5_1).f1) ((rd_T147 l0 x5_1).f2) ((rd_T147 l0 x5_1).f3) ((rd_T147 l1 x5_1).f0) ((rd_T147 l1 x5_1).f1) ((rd_T147 l1 x5_1).f2) ((rd_T147 l1 x5_1).f3) false _ A7.out).mono ?_
             rintro e w12 ⟨rfl, hb⟩
             refine ⟨_, rfl, ?_⟩
             replace HB := ak (below_step bl hb)
             (try clear hb)
             (try clear hb2)
             (try clear hk)
             (try clear hi)
             refine hK.out _ _ ⟨(cw hw466_0), (cw hw466_1), (cw hw466_2), (cw hw466_3), (cw hw467_0), (cw hw467_1), (cw hw467_2), (cw hw467_3)⟩ (fun hHeld => ?_)
             clear hK K
             refine nm ?_
             refine pu 9 (some 26) (bitsA 10 1023) ?_
             refine done_ (done_of HT_.out (by kernel_rfl)) ?_
             try go_wp2
             go_ret
             exact ⟨ew, bl⟩
         · rw [if_neg c6] at H
           exact absurd H (by simp)
       · rw [if_neg c5] at H
         exact absurd H (by simp)
     · rw [if_neg c4] at H
       have c4b0 : decide (x5_1 < (l0.length : Int)) = false := decide_eq_false c4
       clear c4
       obtain rfl := Option.some.inj H
       go_wp2
       go_ret
       exact ⟨ew, bl⟩
 · rw [if_neg c3] at H
   have c3b0 : ((l0.length : Int) == (l1.length : Int)) = false := beq_eq_false_iff_ne.mpr c3
   have c3b1 : ((l0.length : Int) != (l1.length : Int)) = true := bne_iff_ne.mpr c3
   have c3b2 : (l0.length == l1.length) = false := by first | simpa using c3 | (simp at c3 ⊢; omega)
   obtain rfl := Option.some.inj H
   go_enter Try.func38, Try.ntmps38
   go_wp2
   go_ret
   exact ⟨ew, bl⟩

end Go.Proofs.Ytplekidnlofioaa.Q
namespace Go.Proofs.Ytplekidnlofioaa.Q
open Go.RowKit Go.Proofs.YtplekidnlofioaaW.PrintWords Go.Proofs.YtplekidnlofioaaW.PrintLast
def wP (s : S144) : Int := s.f0.size
def wPL : List S144 → Int
  | [] => 0
  | s :: r => wP s + wPL r
theorem wP_nn (s : S144) : 0 ≤ wP s := by unfold wP; omega
theorem wPL_nn : ∀ l, 0 ≤ wPL l
  | [] => by simp [wPL]
  | s :: r => by have := wP_nn s; have := wPL_nn r; simp only [wPL]; omega
def bigP (s : S144) : Prop := s.f0.size ≤ 140737488351232
theorem szPod_v (s : S144) (h : bigP s) (a : Int) (h0 : 0 ≤ a) (h1 : a ≤ 1048576) : laws_szPod.f s.f0 s.f1 s.f2 s.f3 a = some (cutN (a - wP s)) := by
  unfold bigP at h
  unfold laws_szPod.f wP
  rw [wrap_small (a - (s.f0.size : Int)) (by omega) (by omega)]
  by_cases c : a - (s.f0.size : Int) < 0
  · rw [if_pos c, cutN_neg (by omega)]
  · rw [if_neg c, cutN_nn (by omega)]
theorem rdLPd_mid (pre suf : List S144) (p : S144) : rd_T144 (pre ++ p :: suf) (pre.length : Int) = p := by simp [rd_T144]
theorem szPodS_l0_ev (xs : List S144) (hx : xs.length < 4611686018427387904) (hf : ∀ s ∈ xs, bigP s) : ∀ suf pre (a : Int), xs = pre ++ suf → 0 ≤ a → a ≤ 1048576 → Ev (fun k => laws_szPodS.l0 k xs a (pre.length : Int)) (cutN (a - wPL suf)) := by
  intro suf
  induction suf with
  | nil =>
    intro pre a h h0 h1
    refine Ev.step (fun k => by rw [laws_szPodS.l0]) ?_
    have hlt : ¬ ((pre.length : Int) < (xs.length : Int)) := by rw [h]; simp
    simp only [if_neg hlt, wPL, Int.sub_zero]
    rw [cutN_nn (by omega)]
    exact Ev.now _
  | cons s suf ih =>
    intro pre a h h0 h1
    refine Ev.step (fun k => by rw [laws_szPodS.l0]) ?_
    have hlt : ((pre.length : Int) < (xs.length : Int)) := by rw [h]; exact lt_mid _ _ _
    have hw := wrapn pre.length (by omega)
    have hrd : rd_T144 xs (pre.length : Int) = s := by rw [h]; exact rdLPd_mid _ _ _
    have hs := szPod_v s (hf s (by rw [h]; simp)) a h0 h1
    have n1 := wP_nn s
    have n2 := wPL_nn suf
    simp only [if_pos hlt, if_pos (nn _), hrd, hw, hs, Option.bind_some, wPL]
    by_cases c : a - wP s < 0
    · rw [cutN_neg c, cutN_neg (by omega)]
      simp only [show ((-1 : Int) < 0) from by decide, if_true]
      exact Ev.now _
    · rw [cutN_nn c]
      simp only [c, if_false]
      have hr := ih (pre ++ [s]) (a - wP s) (by rw [h]; simp) (by omega) (by omega)
      rw [List.length_append, List.length_singleton] at hr
      rw [show a - (wP s + wPL suf) = a - wP s - wPL suf from by omega]
      exact hr
theorem szPodS_ev (xs : List S144) (hx : xs.length ≤ 140737488351232) (hf : ∀ s ∈ xs, bigP s) (a : Int) (h0 : 0 ≤ a) (h1 : a ≤ 1048576) : Ev (fun k => laws_szPodS.f k xs a) (cutN (a - xs.length - wPL xs)) := by
  unfold laws_szPodS.f
  rw [wrap_small _ (by omega) (by omega)]
  have n2 := wPL_nn xs
  by_cases c : a - (xs.length : Int) < 0
  · simp only [c, if_true]
    rw [cutN_neg (by omega)]
    exact Ev.now _
  · simp only [c, if_false]
    exact szPodS_l0_ev xs (by omega) hf xs [] _ rfl (by omega) (by omega)
theorem wPL_mem : ∀ {l : List S144} {s : S144}, s ∈ l → wP s ≤ wPL l
  | x :: r, s, h => by
    have n1 := wP_nn x
    have n2 := wPL_nn r
    rcases List.mem_cons.1 h with rfl | h
    · simp only [wPL]; omega
    · have := wPL_mem h; simp only [wPL]; omega
def toPd (p : S144) : S147 := ⟨p.f0, p.f1, p.f2, p.f3⟩
theorem toPodS_l0_ev (xs : List S144) (hx : xs.length < 4611686018427387904) : ∀ suf pre, xs = pre ++ suf → Ev (fun k => laws_toPodS.l0 k xs (pre.map toPd ++ List.replicate suf.length z147) (pre.length : Int)) (xs.map toPd) := by
  intro suf
  induction suf with
  | nil =>
    intro pre h
    refine Ev.step (fun k => by rw [laws_toPodS.l0]) ?_
    have hlt : ¬ ((pre.length : Int) < (xs.length : Int)) := by rw [h]; simp
    simp only [if_neg hlt]
    rw [h, List.append_nil, List.length_nil, List.replicate_zero, List.append_nil]
    exact Ev.now _
  | cons p suf ih =>
    intro pre h
    refine Ev.step (fun k => by rw [laws_toPodS.l0]) ?_
    have hlt : ((pre.length : Int) < (xs.length : Int)) := by rw [h]; exact lt_mid _ _ _
    have hw := wrapn pre.length (by omega)
    have hrd : rd_T144 xs (pre.length : Int) = p := by rw [h]; exact rdLPd_mid _ _ _
    have hr := ih (pre ++ [p]) (by rw [h]; simp)
    rw [List.length_append, List.length_singleton, List.map_append, List.append_assoc] at hr
    have hl2 : (pre.length : Int) < ((pre.map toPd ++ List.replicate (p :: suf).length z147).length : Int) := by simp; omega
    have hset : (pre.map toPd ++ List.replicate (p :: suf).length z147).set pre.length (toPd p) = pre.map toPd ++ ([p].map toPd ++ List.replicate suf.length z147) := by
      rw [List.length_cons, List.replicate_succ]
      have := set_mid (pre.map toPd) (List.replicate suf.length z147) z147 (toPd p)
      rw [List.length_map] at this
      rw [this]
      rfl
    simp only [if_pos hlt, if_pos (nn _), hrd, hw, laws_toPod.f, Option.bind_some, if_pos hl2, Int.toNat_natCast]
    rw [show (⟨p.f0, p.f1, p.f2, p.f3⟩ : S147) = toPd p from rfl, hset]
    exact hr
theorem toPodS_ev (xs : List S144) (hx : xs.length ≤ 1048576) : Ev (fun k => laws_toPodS.f k xs) (xs.map toPd) := by
  unfold laws_toPodS.f
  simp only [if_pos (nn _), Int.toNat_natCast, show xs.length ≤ 7036874417766 from by omega, if_true]
  exact toPodS_l0_ev xs (by omega) xs [] rfl
theorem eqPodS_l0_ev (xs : List S147) (hx : xs.length < 4611686018427387904) : ∀ suf pre, xs = pre ++ suf → Ev (fun k => laws_eqPodS.l0 k xs xs (pre.length : Int)) true := by
  intro suf
  induction suf with
  | nil =>
    intro pre h
    refine Ev.step (fun k => by rw [laws_eqPodS.l0]) ?_
    have hlt : ¬ ((pre.length : Int) < (xs.length : Int)) := by rw [h]; simp
    simp only [if_neg hlt]
    exact Ev.now _
  | cons p suf ih =>
    intro pre h
    refine Ev.step (fun k => by rw [laws_eqPodS.l0]) ?_
    have hlt : ((pre.length : Int) < (xs.length : Int)) := by rw [h]; exact lt_mid _ _ _
    have hw := wrapn pre.length (by omega)
    have hr := ih (pre ++ [p]) (by rw [h]; simp)
    rw [List.length_append, List.length_singleton] at hr
    simp only [if_pos hlt, if_pos (nn _), hw, laws_eqPod.f, if_true, bne_self_eq_false, if_neg no_ft, Option.bind_some]
    exact hr
theorem eqPodS_ev (xs : List S147) (hx : xs.length < 4611686018427387904) : Ev (fun k => laws_eqPodS.f k xs xs) true := by
  unfold laws_eqPodS.f
  simp only [if_true]
  exact eqPodS_l0_ev xs hx xs [] rfl
theorem fit_toPd {l : List S144} (h : ∀ s ∈ l, wP s ≤ 1048576) : ∀ s ∈ l.map toPd, fitP s := by
  intro s hs
  obtain ⟨x, hx, rfl⟩ := List.mem_map.1 hs
  have := h x hx
  unfold wP at this
  show x.f0.size < _
  omega
end Go.Proofs.Ytplekidnlofioaa.Q
namespace Go.Proofs.Ytplekidnlofioaa.Q
open Go.RowKit Go.Proofs.YtplekidnlofioaaW.PrintWords Go.Proofs.YtplekidnlofioaaW.PrintLast Go.Proofs.YtplekidnlofioaaW.PrintMore
attribute [local go_sem] max2_int min2_int max_two min_two max_three min_three max_four min_four   -- for this text's walks alone
set_option linter.unusedVariables false
set_option linter.unusedSimpArgs false

/-! ### laws_markText: function 82 -/
def laws_markText.l0 : Nat → Int → ByteArray → Option (ByteArray)
 | 0, _, _ => none
 | k + 1, x0, x3 => if x0 > 0 then ((some (([(wrap64 (48 + (Int.tmod x0 10))) % 256] : List Int) : List Int)).bind fun y301 => (if (strOfNums y301).size + x3.size ≤ 9223372036854775807 then (laws_markText.l0 k (wrap64 (Int.tdiv x0 10)) ((strOfNums y301) ++ x3)) else (none))) else (if 1 + x3.size ≤ 9223372036854775807 then (some ((⟨#[109]⟩ : ByteArray) ++ x3)) else (none))
def laws_markText.f (k : Nat) (a0 : Int) : Option (ByteArray) := if a0 ≤ 0 then (some (⟨#[109, 48]⟩ : ByteArray)) else (laws_markText.l0 k a0 (⟨#[]⟩ : ByteArray))
theorem laws_markText.mono_l : ∀ k, (∀ y0 y1, LeO (laws_markText.l0 k y0 y1) (laws_markText.l0 (k + 1) y0 y1))
 | 0 => fun _ _ r h => by simp [laws_markText.l0] at h
 | k + 1 => by
  have ih0 := laws_markText.mono_l k
  · intro y0 y1
    unfold laws_markText.l0
    repeat' first
    | (with_reducible exact ih0 _ _)
    | (with_reducible exact LeO.refl _)
    | (with_reducible exact LeO.none _)
    | (with_reducible refine LeO.ite ?_ ?_)
    | (with_reducible refine LeO.bind ?_ (fun _ => ?_))
    | exact ih0 _ _
    | exact LeO.none _
    | refine LeO.ite ?_ ?_
    | refine LeO.bind ?_ (fun _ => ?_)
theorem laws_markText.mono : ∀ a0 k, LeO (laws_markText.f k a0) (laws_markText.f (k + 1) a0) := by
 intro a0 k
 have ih0 := laws_markText.mono_l k
 unfold laws_markText.f
 repeat' first
  | (with_reducible exact ih0 _ _)
  | (with_reducible exact LeO.refl _)
  | (with_reducible exact LeO.none _)
  | (with_reducible refine LeO.ite ?_ ?_)
  | (with_reducible refine LeO.bind ?_ (fun _ => ?_))
  | exact ih0 _ _
  | exact LeO.none _
  | refine LeO.ite ?_ ?_
  | refine LeO.bind ?_ (fun _ => ?_)
set_option maxHeartbeats 8000000 in
set_option maxRecDepth 100000 in
theorem laws_markText.calls (k : Nat) (a0 : Int) (r : ByteArray) (w : World) (h : laws_markText.f k a0 = some r) :
 Calls Try.prog 82 #[.int .i64 a0] w fun e w' => e = .returned (.string r) ∧ Below w.heap.size w w' := by
 have HB := Aside0.mk (Below.refl w.heap.size w)
 have H : (if a0 ≤ 0 then (some (⟨#[109, 48]⟩ : ByteArray)) else (laws_markText.l0 k a0 (⟨#[]⟩ : ByteArray))) = some r := h
 clear h
 by_cases c2 : a0 ≤ 0
 · rw [if_pos c2] at H
   have c2b0 : decide (a0 ≤ 0) = true := decide_eq_true c2
   clear c2
   obtain rfl := Option.some.inj H
   go_enter Try.func82, Try.ntmps82
   go_wp2
   go_ret
   exact ⟨ew, bl⟩
 · rw [if_neg c2] at H
   have c2b0 : decide (a0 ≤ 0) = false := decide_eq_false c2
   clear c2
   have H' := Aside0.mk H
   clear H
   go_enter Try.func82, Try.ntmps82
   go_wp2
   go_loopg [0, 3] k (fun kq v0 v3 w' => ∃ (x0_1 : Int) (x3_1 : ByteArray), v0 = .int .i64 x0_1 ∧ v3 = .string x3_1 ∧ Aside0 (laws_markText.l0 kq x0_1 x3_1 = some r) ∧ Aside0 (kq ≤ k) ∧ Aside0 (Below w.heap.size w w'))
   case atStart => exact ⟨(a0), ((⟨#[]⟩ : ByteArray)), es, es, H', ⟨Nat.le_refl _⟩, ⟨bl⟩⟩
   case round =>
    clear H'
    try clear c2
    try clear c2b0
    try clear p2
    obtain ⟨x0_1, x3_1, rfl, rfl, HA, HK1, HB⟩ := hrel
    cases gk with
    | zero => exact absurd HA.out (by simp [laws_markText.l0])
    | succ k1 =>
     have H := HA.out
     clear HA
     simp only [laws_markText.l0] at H
     by_cases c3 : x0_1 > 0
     · rw [if_pos c3] at H
       have c3b0 : decide (0 < x0_1) = true := decide_eq_true c3
       clear c3
       obtain ⟨y301, hy301⟩ : ∃ y_ : List Int, y_ = (([(wrap64 (48 + (Int.tmod x0_1 10))) % 256] : List Int)) := ⟨_, rfl⟩
       replace H : (if (strOfNums y301).size + x3_1.size ≤ 9223372036854775807 then (laws_markText.l0 k1 (wrap64 (Int.tdiv x0_1 10)) ((strOfNums y301) ++ x3_1)) else (none)) = some r := by first | (rw [hy301]; with_reducible exact H) | (have H2_ := (Option.bind_some _ _).symm.trans H; rw [hy301]; with_reducible exact H2_) | (have H2_ := (Option.bind_some _ _).symm.trans H; with_reducible exact H2_) | with_reducible exact H | (rw [hy301]; exact H) | exact H
       have Ny301 := Aside0.mk hy301
       clear hy301
       by_cases c4 : (strOfNums y301).size + x3_1.size ≤ 9223372036854775807
       · rw [if_pos c4] at H
         have c4b0 := eq_true c4
         have c4b1 : decide ((strOfNums y301).size + x3_1.size ≤ 9223372036854775807) = true := decide_eq_true c4
         try have c4b2 : (9223372036854775807 < (strOfNums y301).size + x3_1.size) = False := eq_false (Nat.not_lt.2 c4)
         have H' := Aside0.mk H
         clear H
         go_wp2_with (first | ((with_reducible refine gate_dst (N := 12) rfl ?_); refine Kd.R_lit (Kd.int .u8) _ 5 ?hg (N := 12) ?hd (xs := ([(wrap64 (48 + (Int.tmod x0_1 10))) % 256] : List Int)) (inner := [.int .u8 ((wrap64 (48 + (Int.tmod x0_1 10))) % 256)]) (ok := fun _ => True) (okp := fun _ => True) ?hr ?hp (fun _ hk => hk) trivial (Below.refl _ _) (Nat.le_refl _) (by simp) ?_; (case hd => rfl); (case hg => rfl); (case hr => first | (go_simp; done) | (go_simp; rfl)); (case hp => exact (Reps.one (show Kd.M (Kd.int .u8) _ _ _ ((wrap64 (48 + (Int.tmod x0_1 10))) % 256) [.int .u8 ((wrap64 (48 + (Int.tmod x0_1 10))) % 256)] from rfl) (Reps.none _ _))); intro v302 w5 ho6 hb hg_ hnew_; clear hg_ hnew_; (first | rw [← Ny301.out] at ho6 | (simp only [Int.reduceToNat] at ho6; rw [← Ny301.out] at ho6)); have HO303 := ak (Kd.R_lower ho6 (below_size bl)); replace HB := ak (below_step bl hb); clear hb ho6; have hcv7 := own_string (P := Try.prog) Try.underlying22 Try.underlying5 Try.underlying9 (Kd.own_of_R HO303.out)))
         go_roundg k1
         case measure => have := HK1.out; omega
         case rel => exact ⟨(wrap64 (Int.tdiv x0_1 10)), ((strOfNums y301) ++ x3_1), es, es, H', ⟨kp⟩, ⟨bl⟩⟩
       · rw [if_neg c4] at H
         exact absurd H (by simp)
     · rw [if_neg c3] at H
       have c3b0 : decide (0 < x0_1) = false := decide_eq_false c3
       clear c3
       by_cases c8 : 1 + x3_1.size ≤ 9223372036854775807
       · rw [if_pos c8] at H
         have c8b0 := eq_true c8
         have c8b1 : decide (1 + x3_1.size ≤ 9223372036854775807) = true := decide_eq_true c8
         try have c8b2 : (9223372036854775807 < 1 + x3_1.size) = False := eq_false (Nat.not_lt.2 c8)
         obtain rfl := Option.some.inj H
         go_wp2
         go_ret
         exact ⟨ew, bl⟩
       · rw [if_neg c8] at H
         exact absurd H (by simp)

end Go.Proofs.Ytplekidnlofioaa.Q
namespace Go.Proofs.Ytplekidnlofioaa.Q
open Go.RowKit Go.Proofs.YtplekidnlofioaaW.PrintWords Go.Proofs.YtplekidnlofioaaW.PrintLast Go.Proofs.YtplekidnlofioaaW.PrintMore
attribute [local go_sem] max2_int min2_int max_two min_two max_three min_three max_four min_four   -- for this text's walks alone
set_option linter.unusedVariables false
set_option linter.unusedSimpArgs false

/-! ### laws_markPointS: function 83 -/
def laws_markPointS.l0 : Nat → List (S37) → Int → Int → Option (Int × (List (S37)))
 | 0, _, _, _ => none
 | k + 1, x0, x1, x5 => if x5 < (x0.length : Int) then (if 0 ≤ x5 then ((some (x0.set (x5 : Int).toNat (⟨x1, (rd_T37 x0 x5).f1⟩ : S37) : List (S37))).bind fun y304 => (laws_markPointS.l0 k (y304.set (x5 : Int).toNat (⟨(rd_T37 y304 x5).f0, wrap64 (x1 + 1)⟩ : S37)) (wrap64 ((wrap64 (x1 + 1)) + 1)) (wrap64 (x5 + 1)))) else (none)) else (some (x1, x0))
def laws_markPointS.f (k : Nat) (l0 : List (S37)) (a1 : Int) : Option (Int × (List (S37))) := laws_markPointS.l0 k l0 a1 0
theorem laws_markPointS.mono_l : ∀ k, (∀ y0 y1 y2, LeO (laws_markPointS.l0 k y0 y1 y2) (laws_markPointS.l0 (k + 1) y0 y1 y2))
 | 0 => fun _ _ _ r h => by simp [laws_markPointS.l0] at h
 | k + 1 => by
  have ih0 := laws_markPointS.mono_l k
  · intro y0 y1 y2
    unfold laws_markPointS.l0
    repeat' first
    | (with_reducible exact ih0 _ _ _)
    | (with_reducible exact LeO.refl _)
    | (with_reducible exact LeO.none _)
    | (with_reducible refine LeO.ite ?_ ?_)
    | (with_reducible refine LeO.bind ?_ (fun _ => ?_))
    | exact ih0 _ _ _
    | exact LeO.none _
    | refine LeO.ite ?_ ?_
    | refine LeO.bind ?_ (fun _ => ?_)
theorem laws_markPointS.mono : ∀ a0 a1 k, LeO (laws_markPointS.f k a0 a1) (laws_markPointS.f (k + 1) a0 a1) := by
 intro a0 a1 k
 have ih0 := laws_markPointS.mono_l k
 unfold laws_markPointS.f
 repeat' first
  | (with_reducible exact ih0 _ _ _)
  | (with_reducible exact LeO.refl _)
  | (with_reducible exact LeO.none _)
  | (with_reducible refine LeO.ite ?_ ?_)
  | (with_reducible refine LeO.bind ?_ (fun _ => ?_))
  | exact ih0 _ _ _
  | exact LeO.none _
  | refine LeO.ite ?_ ?_
  | refine LeO.bind ?_ (fun _ => ?_)
set_option maxHeartbeats 8000000 in
set_option maxRecDepth 100000 in
theorem laws_markPointS.calls (k : Nat) (P0_ : Nat → Prop) (u9000_ : Value) (l0 : List (S37)) (a1 : Int) (r1 : Int) (r2 : List (S37)) (w0 w : World) (hB : Below w0.heap.size w0 w) (ho0 : Kd.R k37 37 w w0.heap.size P0_ u9000_ l0) (h : laws_markPointS.f k l0 a1 = some (r1, r2)) :
 Calls Try.prog 83 #[u9000_, .int .i64 a1] w fun e w' => e = .returned (.int .i64 r1) ∧ Kd.R k37 37 w' w0.heap.size (fun k_ => (P0_ k_ ∨ w.heap.size ≤ k_)) u9000_ r2 ∧ Below w0.heap.size w0 w' ∧ Kept w w' (fun k_ => P0_ k_) := by
 have HO0 := Aside0.mk (show Kd.R k37 37 w w0.heap.size (fun k_ => (P0_ k_ ∨ w.heap.size ≤ k_)) u9000_ l0 from Kd.R_mono ho0 (fun k_ hk => (.inl hk)))
 have HK := Aside0.mk (Kept.refl w (fun k_ => P0_ k_))
 have HW0 := Aside0.mk hB.size
 have HB := Aside0.mk hB
 clear hB
 have H : (laws_markPointS.l0 k l0 a1 0) = some (r1, r2) := h
 clear h
 have H' := Aside0.mk H
 clear H
 go_enter Try.func83, Try.ntmps83
 go_wp2
 go_loopg [1, 5] k (fun kq v1 v5 w' => ∃ (x0_1 : List (S37)) (x1_1 : Int) (x5_1 : Int), v1 = .int .i64 x1_1 ∧ v5 = .int .i64 x5_1 ∧ Aside0 (laws_markPointS.l0 kq x0_1 x1_1 x5_1 = some (r1, r2)) ∧ Aside0 (kq ≤ k) ∧ Aside0 (Kd.R k37 37 w' w0.heap.size (fun k_ => (P0_ k_ ∨ w.heap.size ≤ k_)) u9000_ x0_1) ∧ Aside0 (Kept w w' (fun k_ => P0_ k_)) ∧ Aside0 (Below w0.heap.size w0 w'))
 case atStart => exact ⟨(l0), (a1), (0), es, es, H', ⟨Nat.le_refl _⟩, ⟨kr HO0⟩, ⟨by repeat (first | (with_reducible first | exact HK.out | apply Kept.alloc | apply Kept.drewN | apply Kept.drew) | exact HK.out)⟩, ⟨bl⟩⟩
 case round =>
  clear H'
  try clear p2
  obtain ⟨x0_1, x1_1, x5_1, rfl, rfl, HA, HK1, HO_0, HK, HB⟩ := hrel
  cases gk with
  | zero => exact absurd HA.out (by simp [laws_markPointS.l0])
  | succ k1 =>
   have H := HA.out
   clear HA
   simp only [laws_markPointS.l0] at H
   by_cases c3 : x5_1 < (x0_1.length : Int)
   · rw [if_pos c3] at H
     have c3b0 : decide (x5_1 < (x0_1.length : Int)) = true := decide_eq_true c3
     clear c3
     by_cases c4 : 0 ≤ x5_1
     · rw [if_pos c4] at H
       have c4b0 : decide (0 ≤ x5_1) = true := decide_eq_true c4
       clear c4
       obtain ⟨y304, hy304⟩ : ∃ y_ : List (S37), y_ = (x0_1.set (x5_1 : Int).toNat (⟨x1_1, (rd_T37 x0_1 x5_1).f1⟩ : S37)) := ⟨_, rfl⟩
       replace H : (laws_markPointS.l0 k1 (y304.set (x5_1 : Int).toNat (⟨(rd_T37 y304 x5_1).f0, wrap64 (x1_1 + 1)⟩ : S37)) (wrap64 ((wrap64 (x1_1 + 1)) + 1)) (wrap64 (x5_1 + 1))) = some (r1, r2) := by first | (rw [hy304]; with_reducible exact H) | (have H2_ := (Option.bind_some _ _).symm.trans H; rw [hy304]; with_reducible exact H2_) | (have H2_ := (Option.bind_some _ _).symm.trans H; with_reducible exact H2_) | with_reducible exact H | (rw [hy304]; exact H) | exact H
       have Ny304 := Aside0.mk hy304
       clear hy304
       obtain ⟨y305, hy305⟩ : ∃ y_ : List (S37), y_ = (y304.set (x5_1 : Int).toNat (⟨(rd_T37 y304 x5_1).f0, wrap64 (x1_1 + 1)⟩ : S37)) := ⟨_, rfl⟩
       replace H : (laws_markPointS.l0 k1 y305 (wrap64 ((wrap64 (x1_1 + 1)) + 1)) (wrap64 (x5_1 + 1))) = some (r1, r2) := by first | (rw [hy305]; with_reducible exact H) | (have H2_ := (Option.bind_some _ _).symm.trans H; rw [hy305]; with_reducible exact H2_) | (have H2_ := (Option.bind_some _ _).symm.trans H; with_reducible exact H2_) | with_reducible exact H | (rw [hy305]; exact H) | exact H
       have Ny305 := Aside0.mk hy305
       clear hy305
       have H' := Aside0.mk H
       clear H
       obtain ⟨Ao7, co7, eo7⟩ := Kd.R_slice HO_0.out
       subst eo7
       have p5 : 0 ≤ (x5_1 : Int) := of_decide_eq_true am
       have q5 : (x5_1 : Int) < ((x0_1.length : Int) : Int) := of_decide_eq_true am
       obtain ⟨go5, co5, eo5, gb5, gl5, cl5, HG5⟩ := Kd.R_form HO_0.out (by omega)
       (first | cases eo5 | (injection eo5 with ea_ en_ ec_; (first | subst ea_ | (injection ea_ with ea_; subst ea_)); subst ec_; clear en_))
       have GB5 := Aside0.mk gb5
       have GG5 := Aside0.mk HG5
       clear gb5 gl5 HG5
       have HMgo5 := Aside0.mk (show (P0_ go5 ∨ w.heap.size ≤ go5) from (HO_0.out.1 _ rfl))
       obtain ⟨ce5, hcl5, hM5, hcc5, hfr5⟩ := Kd.R_elem HO_0.out z37 (x5_1 : Int) p5 q5
       obtain rfl := k37_openM hM5
       have hx5_0 : wr.cell? ⟨go5, (x5_1 : Int).toNat * 2, none⟩ = some (.int .i64 ((rd_T37 x0_1 x5_1).f0)) := hcc5 0 _ rfl
       have hx5_1 : wr.cell? ⟨go5, (x5_1 : Int).toNat * 2 + 1, none⟩ = some (.int .i64 ((rd_T37 x0_1 x5_1).f1)) := hcc5 1 _ rfl
       have hf5_0 : wr.frozen? ⟨go5, (x5_1 : Int).toNat * 2, none⟩ = false := hfr5 0
       have hf5_1 : wr.frozen? ⟨go5, (x5_1 : Int).toNat * 2 + 1, none⟩ = false := hfr5 1
       clear hcl5 hcc5 hfr5 hM5
       replace p5 := eq_true p5
       replace q5 := eq_true q5
       have HX8 := Aside0.mk (show Kd.R k37 37 wr w0.heap.size (fun k_ => (P0_ k_ ∨ w.heap.size ≤ k_)) (.slice (some ⟨go5, 0, none⟩) x0_1.length co7) x0_1 from (kr HO_0))
       obtain ⟨ce8, hcl8, hM8, hcc8, hfr8⟩ := Kd.R_elem HX8.out z37 (x5_1 : Int) (of_decide_eq_true am) (by have h_ : (x5_1 : Int) < ((x0_1.length : Int) : Int) := of_decide_eq_true am; first | exact h_ | (have e_ := (Kd.R_reads' HO_0.out).1; omega) | simpa using h_)
       obtain rfl := k37_openM hM8
       have HP8 := Kd.R_seg HX8.out (x5_1 : Int) (of_decide_eq_true am) (by have h_ : (x5_1 : Int) < ((x0_1.length : Int) : Int) := of_decide_eq_true am; first | exact h_ | (have e_ := (Kd.R_reads' HO_0.out).1; omega) | simpa using h_) (seg := [.int .i64 x1_1]) (j := 0) hcl8 hcc8 (show 1 ≤ 2 from by decide) (x' := (⟨x1_1, (rd_T37 x0_1 x5_1).f1⟩ : S37)) (k37_mkM _ _ _ (⟨x1_1, (rd_T37 x0_1 x5_1).f1⟩ : S37) ) (fun _ hk => hk)
       have hx8_0 := hcc8 0 _ rfl
       (try simp only [show (k37).sz = 2 from rfl, Nat.mul_one, Nat.add_zero] at hx8_0)
       have hf8_0 := hfr8 0
       (try simp only [show (k37).sz = 2 from rfl, Nat.mul_one, Nat.add_zero] at hf8_0)
       clear hcl8 hcc8 hfr8 hM8
       go_wp2_with (first | ((with_reducible refine gate_store (t := 3) (p := 16) rfl ?_); refine store_event (t := 3) (p := 16) (v := ?vo_w9) (w1 := (wr.setCell ⟨go5, (x5_1 : Int).toNat * 2, none⟩ (.int .i64 x1_1))) ?hg ?ho ?hn ?hr ?_; (case ho => rfl); (case hg => rfl); (case hn => rfl); (case hr => first | (go_simp; done) | (go_simp; rfl)); intro w9 hw; have hg : wr.grownBy w9 (some go5) := (by rw [hw]; exact HP8.2); have hp_ : Kd.R k37 37 w9 w0.heap.size (fun k_ => (P0_ k_ ∨ w.heap.size ≤ k_)) (.slice (some ⟨go5, 0, none⟩) x0_1.length co7) y304 := (by rw [hw, Ny304.out]; exact HP8.1); clear HP8; replace HB := ak (by rw [hw]; exact below_set (HB.out) GB5.out : Below w0.heap.size w0 w9); replace HK := ak (Kept.of_grown (S := (fun k_ => P0_ k_)) hg (by repeat (first | (with_reducible first | exact HK.out | apply Kept.alloc | apply Kept.drewN | apply Kept.drew) | exact HK.out)) (fun k_ e_ => (HO_0.out.1 k_ e_))); replace HO_0 := ak hp_; clear hg hw hp_; have p6 : 0 ≤ (x5_1 : Int) := of_decide_eq_true am; have q6 : (x5_1 : Int) < ((x0_1.length : Int) : Int) := of_decide_eq_true am; obtain ⟨ce6, hcl6, hM6, hcc6, hfr6⟩ := Kd.R_elem HO_0.out z37 (x5_1 : Int) p6 q6; obtain rfl := k37_openM hM6; have hx6_0 : w9.cell? ⟨go5, (x5_1 : Int).toNat * 2, none⟩ = some (.int .i64 ((rd_T37 y304 x5_1).f0)) := hcc6 0 _ rfl; have hx6_1 : w9.cell? ⟨go5, (x5_1 : Int).toNat * 2 + 1, none⟩ = some (.int .i64 ((rd_T37 y304 x5_1).f1)) := hcc6 1 _ rfl; have hf6_0 : w9.frozen? ⟨go5, (x5_1 : Int).toNat * 2, none⟩ = false := hfr6 0; have hf6_1 : w9.frozen? ⟨go5, (x5_1 : Int).toNat * 2 + 1, none⟩ = false := hfr6 1; clear hcl6 hcc6 hfr6 hM6; replace p6 := eq_true p6; replace q6 := eq_true q6; have HX10 := Aside0.mk (show Kd.R k37 37 w9 w0.heap.size (fun k_ => (P0_ k_ ∨ w.heap.size ≤ k_)) (.slice (some ⟨go5, 0, none⟩) x0_1.length co7) y304 from (kr HO_0)); obtain ⟨ce10, hcl10, hM10, hcc10, hfr10⟩ := Kd.R_elem HX10.out z37 (x5_1 : Int) (of_decide_eq_true am) (by have h_ : (x5_1 : Int) < ((x0_1.length : Int) : Int) := of_decide_eq_true am; first | exact h_ | (have e_ := (Kd.R_reads' HO_0.out).1; omega) | simpa using h_); obtain rfl := k37_openM hM10; have HP10 := Kd.R_seg HX10.out (x5_1 : Int) (of_decide_eq_true am) (by have h_ : (x5_1 : Int) < ((x0_1.length : Int) : Int) := of_decide_eq_true am; first | exact h_ | (have e_ := (Kd.R_reads' HO_0.out).1; omega) | simpa using h_) (seg := [.int .i64 (wrap64 (x1_1 + 1))]) (j := 1) hcl10 hcc10 (show 2 ≤ 2 from by decide) (x' := (⟨(rd_T37 y304 x5_1).f0, wrap64 (x1_1 + 1)⟩ : S37)) (k37_mkM _ _ _ (⟨(rd_T37 y304 x5_1).f0, wrap64 (x1_1 + 1)⟩ : S37) ) (fun _ hk => hk); have hx10_1 := hcc10 1 _ rfl; (try simp only [show (k37).sz = 2 from rfl, Nat.mul_one, Nat.add_zero] at hx10_1); have hf10_1 := hfr10 1; (try simp only [show (k37).sz = 2 from rfl, Nat.mul_one, Nat.add_zero] at hf10_1); clear hcl10 hcc10 hfr10 hM10) | ((with_reducible refine gate_store (t := 3) (p := 23) rfl ?_); refine store_event (t := 3) (p := 23) (v := ?vo_w11) (w1 := (w9.setCell ⟨go5, (x5_1 : Int).toNat * 2 + 1, none⟩ (.int .i64 (wrap64 (x1_1 + 1))))) ?hg ?ho ?hn ?hr ?_; (case ho => rfl); (case hg => rfl); (case hn => rfl); (case hr => first | (go_simp; done) | (go_simp; rfl)); intro w11 hw; have hg : w9.grownBy w11 (some go5) := (by rw [hw]; exact HP10.2); have hp_ : Kd.R k37 37 w11 w0.heap.size (fun k_ => (P0_ k_ ∨ w.heap.size ≤ k_)) (.slice (some ⟨go5, 0, none⟩) x0_1.length co7) y305 := (by rw [hw, Ny305.out]; exact HP10.1); clear HP10; replace HB := ak (by rw [hw]; exact below_set (HB.out) GB5.out : Below w0.heap.size w0 w11); replace HK := ak (Kept.of_grown (S := (fun k_ => P0_ k_)) hg (by repeat (first | (with_reducible first | exact HK.out | apply Kept.alloc | apply Kept.drewN | apply Kept.drew) | exact HK.out)) (fun k_ e_ => (HO_0.out.1 k_ e_))); replace HO_0 := ak hp_; clear hg hw hp_))
       go_roundg k1
       case measure => have := HK1.out; omega
       case rel => exact ⟨(y305), (wrap64 ((wrap64 (x1_1 + 1)) + 1)), (wrap64 (x5_1 + 1)), es, es, H', ⟨kp⟩, ⟨kr HO_0⟩, ⟨by repeat (first | (with_reducible first | exact HK.out | apply Kept.alloc | apply Kept.drewN | apply Kept.drew) | exact HK.out)⟩, ⟨bl⟩⟩
     · rw [if_neg c4] at H
       exact absurd H (by simp)
   · rw [if_neg c3] at H
     have c3b0 : decide (x5_1 < (x0_1.length : Int)) = false := decide_eq_false c3
     clear c3
     simp only [Option.some.injEq, Prod.mk.injEq] at H
     obtain ⟨rfl, rfl⟩ := H
     obtain ⟨Ao12, co12, eo12⟩ := Kd.R_slice HO_0.out
     subst eo12
     go_wp2
     go_ret
     exact ⟨ew, kr HO_0, bl, by repeat (first | (with_reducible first | exact HK.out | apply Kept.alloc | apply Kept.drewN | apply Kept.drew) | exact HK.out)⟩

end Go.Proofs.Ytplekidnlofioaa.Q
namespace Go.Proofs.Ytplekidnlofioaa.Q
open Go.RowKit Go.Proofs.YtplekidnlofioaaW.PrintWords Go.Proofs.YtplekidnlofioaaW.PrintLast Go.Proofs.YtplekidnlofioaaW.PrintMore
attribute [local go_sem] max2_int min2_int max_two min_two max_three min_three max_four min_four   -- for this text's walks alone
set_option linter.unusedVariables false
set_option linter.unusedSimpArgs false

/-! ### laws_heldPointS: function 84 -/
def laws_heldPointS.l0 : Nat → List (S37) → Int → Int → Option (Int)
 | 0, _, _, _ => none
 | k + 1, x0, x1, x5 => if x5 < (x0.length : Int) then (if 0 ≤ x5 then (if ((rd_T37 x0 x5).f0) = x1 then (if ((rd_T37 x0 x5).f1) = (wrap64 (x1 + 1)) then (laws_heldPointS.l0 k x0 (wrap64 ((wrap64 (x1 + 1)) + 1)) (wrap64 (x5 + 1))) else (some (-1))) else (some (-1))) else (none)) else (some x1)
def laws_heldPointS.f (k : Nat) (l0 : List (S37)) (a1 : Int) : Option (Int) := laws_heldPointS.l0 k l0 a1 0
theorem laws_heldPointS.mono_l : ∀ k, (∀ y0 y1 y2, LeO (laws_heldPointS.l0 k y0 y1 y2) (laws_heldPointS.l0 (k + 1) y0 y1 y2))
 | 0 => fun _ _ _ r h => by simp [laws_heldPointS.l0] at h
 | k + 1 => by
  have ih0 := laws_heldPointS.mono_l k
  · intro y0 y1 y2
    unfold laws_heldPointS.l0
    repeat' first
    | (with_reducible exact ih0 _ _ _)
    | (with_reducible exact LeO.refl _)
    | (with_reducible exact LeO.none _)
    | (with_reducible refine LeO.ite ?_ ?_)
    | (with_reducible refine LeO.bind ?_ (fun _ => ?_))
    | exact ih0 _ _ _
    | exact LeO.none _
    | refine LeO.ite ?_ ?_
    | refine LeO.bind ?_ (fun _ => ?_)
theorem laws_heldPointS.mono : ∀ a0 a1 k, LeO (laws_heldPointS.f k a0 a1) (laws_heldPointS.f (k + 1) a0 a1) := by
 intro a0 a1 k
 have ih0 := laws_heldPointS.mono_l k
 unfold laws_heldPointS.f
 repeat' first
  | (with_reducible exact ih0 _ _ _)
  | (with_reducible exact LeO.refl _)
  | (with_reducible exact LeO.none _)
  | (with_reducible refine LeO.ite ?_ ?_)
  | (with_reducible refine LeO.bind ?_ (fun _ => ?_))
  | exact ih0 _ _ _
  | exact LeO.none _
  | refine LeO.ite ?_ ?_
  | refine LeO.bind ?_ (fun _ => ?_)
set_option maxHeartbeats 8000000 in
set_option maxRecDepth 100000 in
theorem laws_heldPointS.calls (k : Nat) (A0 : Option Addr) (c0 : Nat) (l0 : List (S37)) (a1 : Int) (r : Int) (w : World) (hr0 : Kd.C k37 w A0 l0.length l0) (hc0 : l0.length ≤ c0) (h : laws_heldPointS.f k l0 a1 = some r) :
 Calls Try.prog 84 #[.slice A0 l0.length c0, .int .i64 a1] w fun e w' => e = .returned (.int .i64 r) ∧ Drawn0 w w' := by
 have HR0 := Aside0.mk hr0
 have HC0 := Aside0.mk hc0
 clear hr0 hc0
 have H : (laws_heldPointS.l0 k l0 a1 0) = some r := h
 clear h
 have H' := Aside0.mk H
 clear H
 go_enter Try.func84, Try.ntmps84
 go_wp2
 go_loopg [1, 5] k (fun kq v1 v5 w' => ∃ (x1_1 : Int) (x5_1 : Int), v1 = .int .i64 x1_1 ∧ v5 = .int .i64 x5_1 ∧ Aside0 (laws_heldPointS.l0 kq l0 x1_1 x5_1 = some r) ∧ Aside0 (kq ≤ k) ∧ Drawn0 w w')
 case atStart => exact ⟨(a1), (0), es, es, H', ⟨Nat.le_refl _⟩, dr0⟩
 case round =>
  clear H'
  try clear p2
  obtain ⟨x1_1, x5_1, rfl, rfl, HA, HK1, ⟨m1, rfl⟩⟩ := hrel
  cases gk with
  | zero => exact absurd HA.out (by simp [laws_heldPointS.l0])
  | succ k1 =>
   have H := HA.out
   clear HA
   simp only [laws_heldPointS.l0] at H
   by_cases c3 : x5_1 < (l0.length : Int)
   · rw [if_pos c3] at H
     have c3b0 : decide (x5_1 < (l0.length : Int)) = true := decide_eq_true c3
     clear c3
     by_cases c4 : 0 ≤ x5_1
     · rw [if_pos c4] at H
       have c4b0 : decide (0 ≤ x5_1) = true := decide_eq_true c4
       clear c4
       by_cases c5 : ((rd_T37 l0 x5_1).f0) = x1_1
       · rw [if_pos c5] at H
         have c5b0 : (((rd_T37 l0 x5_1).f0) == x1_1) = true := beq_iff_eq.mpr c5
         have c5b1 : (((rd_T37 l0 x5_1).f0) != x1_1) = false := bne_eq_false_iff_eq.mpr c5
         clear c5
         by_cases c6 : ((rd_T37 l0 x5_1).f1) = (wrap64 (x1_1 + 1))
         · rw [if_pos c6] at H
           have c6b0 : (((rd_T37 l0 x5_1).f1) == (wrap64 (x1_1 + 1))) = true := beq_iff_eq.mpr c6
           have c6b1 : (((rd_T37 l0 x5_1).f1) != (wrap64 (x1_1 + 1))) = false := bne_eq_false_iff_eq.mpr c6
           clear c6
           have H' := Aside0.mk H
           clear H
           have p307 : 0 ≤ (x5_1 : Int) := of_decide_eq_true am
           have q307 : x5_1 < (l0.length : Int) := of_decide_eq_true am
           obtain ⟨ad307, e307, hx307_0, hx307_1⟩ := at_T37 HR0.out x5_1 p307 q307
           cases e307
           replace p307 := eq_true p307
           replace q307 := eq_true q307
           have p308 : 0 ≤ (x5_1 : Int) := of_decide_eq_true am
           have q308 : x5_1 < (l0.length : Int) := of_decide_eq_true am
           obtain ⟨ad308, e308, hx308_0, hx308_1⟩ := at_T37 HR0.out x5_1 p308 q308
           obtain rfl : ad307 = ad308 := (by injection e308)
           replace p308 := eq_true p308
           replace q308 := eq_true q308
           go_wp2
           go_roundg k1
           case measure => have := HK1.out; omega
           case rel => exact ⟨(wrap64 ((wrap64 (x1_1 + 1)) + 1)), (wrap64 (x5_1 + 1)), es, es, H', ⟨kp⟩, dr0⟩
         · rw [if_neg c6] at H
           have c6b0 : (((rd_T37 l0 x5_1).f1) == (wrap64 (x1_1 + 1))) = false := beq_eq_false_iff_ne.mpr c6
           have c6b1 : (((rd_T37 l0 x5_1).f1) != (wrap64 (x1_1 + 1))) = true := bne_iff_ne.mpr c6
           obtain rfl := Option.some.inj H
           have p307 : 0 ≤ (x5_1 : Int) := of_decide_eq_true am
           have q307 : x5_1 < (l0.length : Int) := of_decide_eq_true am
           obtain ⟨ad307, e307, hx307_0, hx307_1⟩ := at_T37 HR0.out x5_1 p307 q307
           cases e307
           replace p307 := eq_true p307
           replace q307 := eq_true q307
           have p308 : 0 ≤ (x5_1 : Int) := of_decide_eq_true am
           have q308 : x5_1 < (l0.length : Int) := of_decide_eq_true am
           obtain ⟨ad308, e308, hx308_0, hx308_1⟩ := at_T37 HR0.out x5_1 p308 q308
           obtain rfl : ad307 = ad308 := (by injection e308)
           replace p308 := eq_true p308
           replace q308 := eq_true q308
           go_wp2
           go_ret
           exact ⟨es, dr0⟩
       · rw [if_neg c5] at H
         have c5b0 : (((rd_T37 l0 x5_1).f0) == x1_1) = false := beq_eq_false_iff_ne.mpr c5
         have c5b1 : (((rd_T37 l0 x5_1).f0) != x1_1) = true := bne_iff_ne.mpr c5
         obtain rfl := Option.some.inj H
         have p307 : 0 ≤ (x5_1 : Int) := of_decide_eq_true am
         have q307 : x5_1 < (l0.length : Int) := of_decide_eq_true am
         obtain ⟨ad307, e307, hx307_0, hx307_1⟩ := at_T37 HR0.out x5_1 p307 q307
         cases e307
         replace p307 := eq_true p307
         replace q307 := eq_true q307
         go_wp2
         go_ret
         exact ⟨es, dr0⟩
     · rw [if_neg c4] at H
       exact absurd H (by simp)
   · rw [if_neg c3] at H
     have c3b0 : decide (x5_1 < (l0.length : Int)) = false := decide_eq_false c3
     clear c3
     obtain rfl := Option.some.inj H
     go_wp2
     go_ret
     exact ⟨es, dr0⟩

end Go.Proofs.Ytplekidnlofioaa.Q
namespace Go.Proofs.Ytplekidnlofioaa.Q
open Go.RowKit Go.Proofs.YtplekidnlofioaaW.PrintWords Go.Proofs.YtplekidnlofioaaW.PrintLast Go.Proofs.YtplekidnlofioaaW.PrintMore
attribute [local go_sem] max2_int min2_int max_two min_two max_three min_three max_four min_four   -- for this text's walks alone
set_option linter.unusedVariables false
set_option linter.unusedSimpArgs false

/-! ### laws_heldSeriesS: function 26 -/
def laws_heldSeriesS.l0 : Nat → List (S81) → Int → Int → Option (Int)
 | 0, _, _, _ => none
 | k + 1, x0, x1, x5 => if x5 < (x0.length : Int) then (if 0 ≤ x5 then ((laws_markText.f k x1).bind fun t310 => (if ((rd_T81 x0 x5).f0).toList = t310.toList then ((laws_markText.f k (wrap64 (x1 + 1))).bind fun t312 => (if ((rd_T81 x0 x5).f1).toList = t312.toList then ((laws_heldPointS.f k ((rd_T81 x0 x5).f2) (wrap64 ((wrap64 (x1 + 1)) + 1))).bind fun t314 => (if t314 < 0 then (some (-1)) else (laws_heldSeriesS.l0 k x0 t314 (wrap64 (x5 + 1))))) else (some (-1)))) else (some (-1)))) else (none)) else (some x1)
def laws_heldSeriesS.f (k : Nat) (l0 : List (S81)) (a1 : Int) : Option (Int) := laws_heldSeriesS.l0 k l0 a1 0
theorem laws_heldSeriesS.mono_l : ∀ k, (∀ y0 y1 y2, LeO (laws_heldSeriesS.l0 k y0 y1 y2) (laws_heldSeriesS.l0 (k + 1) y0 y1 y2))
 | 0 => fun _ _ _ r h => by simp [laws_heldSeriesS.l0] at h
 | k + 1 => by
  have ih0 := laws_heldSeriesS.mono_l k
  · intro y0 y1 y2
    unfold laws_heldSeriesS.l0
    repeat' first
    | (with_reducible exact ih0 _ _ _)
    | (with_reducible exact laws_heldPointS.mono _ _ _)
    | (with_reducible exact laws_markText.mono _ _)
    | (with_reducible exact LeO.refl _)
    | (with_reducible exact LeO.none _)
    | (with_reducible refine LeO.ite ?_ ?_)
    | (with_reducible refine LeO.bind ?_ (fun _ => ?_))
    | exact ih0 _ _ _
    | exact laws_heldPointS.mono _ _ _
    | exact laws_markText.mono _ _
    | exact LeO.none _
    | refine LeO.ite ?_ ?_
    | refine LeO.bind ?_ (fun _ => ?_)
theorem laws_heldSeriesS.mono : ∀ a0 a1 k, LeO (laws_heldSeriesS.f k a0 a1) (laws_heldSeriesS.f (k + 1) a0 a1) := by
 intro a0 a1 k
 have ih0 := laws_heldSeriesS.mono_l k
 unfold laws_heldSeriesS.f
 repeat' first
  | (with_reducible exact ih0 _ _ _)
  | (with_reducible exact laws_heldPointS.mono _ _ _)
  | (with_reducible exact laws_markText.mono _ _)
  | (with_reducible exact LeO.refl _)
  | (with_reducible exact LeO.none _)
  | (with_reducible refine LeO.ite ?_ ?_)
  | (with_reducible refine LeO.bind ?_ (fun _ => ?_))
  | exact ih0 _ _ _
  | exact laws_heldPointS.mono _ _ _
  | exact laws_markText.mono _ _
  | exact LeO.none _
  | refine LeO.ite ?_ ?_
  | refine LeO.bind ?_ (fun _ => ?_)
def laws_heldSeriesS.T4 : Bool × List (List Nat × List Nat) := (true, [([], []), ([], []), ([0, 1], [0, 1]), ([2], [2]), ([3], [3]), ([], []), ([5], [5]), ([4, 6], [4, 6])])
def laws_heldSeriesS.B4 : List Nat := [0, 0, 3, 7, 15, 0, 32, 127]
theorem laws_heldSeriesS.tab4 : rtab .any (opsOf Try.f26 4) = laws_heldSeriesS.T4 := by kernel_rfl
theorem laws_heldSeriesS.bits4 : waitsOk laws_heldSeriesS.T4.2 laws_heldSeriesS.B4 = true := by kernel_rfl
def laws_heldSeriesS.T7 : Bool × List (List Nat × List Nat) := (true, [([], []), ([], []), ([0, 1], [0, 1]), ([2], [2]), ([3], [3]), ([], []), ([5], [5]), ([4, 6], [4, 6])])
def laws_heldSeriesS.B7 : List Nat := [0, 0, 3, 7, 15, 0, 32, 127]
theorem laws_heldSeriesS.tab7 : rtab .any (opsOf Try.f26 7) = laws_heldSeriesS.T7 := by kernel_rfl
theorem laws_heldSeriesS.bits7 : waitsOk laws_heldSeriesS.T7.2 laws_heldSeriesS.B7 = true := by kernel_rfl
set_option maxHeartbeats 8000000 in
set_option maxRecDepth 100000 in
theorem laws_heldSeriesS.calls (k : Nat) (A0 : Option Addr) (c0 : Nat) (l0 : List (S81)) (a1 : Int) (r : Int) (w : World) (hr0 : Kd.C k81 w A0 l0.length l0) (hc0 : l0.length ≤ c0) (h : laws_heldSeriesS.f k l0 a1 = some r) :
 Calls Try.prog 26 #[.slice A0 l0.length c0, .int .i64 a1] w fun e w' => e = .returned (.int .i64 r) ∧ Below w.heap.size w w' := by
 have HR0 := Aside0.mk hr0
 have HC0 := Aside0.mk hc0
 clear hr0 hc0
 have HB := Aside0.mk (Below.refl w.heap.size w)
 have H : (laws_heldSeriesS.l0 k l0 a1 0) = some r := h
 clear h
 have H' := Aside0.mk H
 clear H
 go_enter Try.func26, Try.ntmps26
 go_wp2
 go_loopg [1, 5] k (fun kq v1 v5 w' => ∃ (x1_1 : Int) (x5_1 : Int), v1 = .int .i64 x1_1 ∧ v5 = .int .i64 x5_1 ∧ Aside0 (laws_heldSeriesS.l0 kq l0 x1_1 x5_1 = some r) ∧ Aside0 (kq ≤ k) ∧ Aside0 (Below w.heap.size w w'))
 case atStart => exact ⟨(a1), (0), es, es, H', ⟨Nat.le_refl _⟩, ⟨bl⟩⟩
 case round =>
  clear H'
  try clear c2
  try clear p2
  obtain ⟨x1_1, x5_1, rfl, rfl, HA, HK1, HB⟩ := hrel
  cases gk with
  | zero => exact absurd HA.out (by simp [laws_heldSeriesS.l0])
  | succ k1 =>
   have H := HA.out
   clear HA
   simp only [laws_heldSeriesS.l0] at H
   by_cases c3 : x5_1 < (l0.length : Int)
   · rw [if_pos c3] at H
     have c3b0 : decide (x5_1 < (l0.length : Int)) = true := decide_eq_true c3
     clear c3
     by_cases c4 : 0 ≤ x5_1
     · rw [if_pos c4] at H
       have c4b0 : decide (0 ≤ x5_1) = true := decide_eq_true c4
       clear c4
       obtain ⟨t310, A50, H⟩ := bo H
       have A5 := Aside0.mk A50
       clear A50
       by_cases c6 : ((rd_T81 l0 x5_1).f0).toList = t310.toList
       · rw [if_pos c6] at H
         have c6b0 : (((rd_T81 l0 x5_1).f0).toList == t310.toList) = true := beq_iff_eq.mpr c6
         have c6b1 : (((rd_T81 l0 x5_1).f0).toList != t310.toList) = false := bne_eq_false_iff_eq.mpr c6
         clear c6
         obtain ⟨t312, A70, H⟩ := bo H
         have A7 := Aside0.mk A70
         clear A70
         by_cases c8 : ((rd_T81 l0 x5_1).f1).toList = t312.toList
         · rw [if_pos c8] at H
           have c8b0 : (((rd_T81 l0 x5_1).f1).toList == t312.toList) = true := beq_iff_eq.mpr c8
           have c8b1 : (((rd_T81 l0 x5_1).f1).toList != t312.toList) = false := bne_eq_false_iff_eq.mpr c8
           clear c8
           obtain ⟨t314, A90, H⟩ := bo H
           have A9 := Aside0.mk A90
           clear A90
           by_cases c10 : t314 < 0
           · rw [if_pos c10] at H
             have c10b0 : decide (t314 < 0) = true := decide_eq_true c10
             clear c10
             obtain rfl := Option.some.inj H
             try go_wp2
             replace HB := ak (below_drew1 HB.out)
             have p309 : 0 ≤ (x5_1 : Int) := of_decide_eq_true am
             have q309 : x5_1 < (l0.length : Int) := of_decide_eq_true am
             obtain ⟨ad309, A309_2, c309_2, e309, hx309_0, hx309_1, hx309_2, hl309_2, hi309_2⟩ := at_T81 HR0.out x5_1 p309 q309
             have hw309_2 := hx309_2
             have hw309_1 := hx309_1
             have hw309_0 := hx309_0
             cases e309
             replace hx309_0 := cw hx309_0
             replace hx309_1 := cw hx309_1
             replace hx309_2 := cw hx309_2
             have HR309_2 := Aside0.mk hi309_2
             have HC309_2 := Aside0.mk hl309_2
             clear hi309_2 hl309_2
             replace p309 := eq_true p309
             replace q309 := eq_true q309
             refine start_ (n := 8) (S := fun w' => w'.cell? (ad309.add ((x5_1).toNat * 3)) = some (.string ((rd_T81 l0 x5_1).f0)) ∧ w'.cell? ⟨(ad309.add ((x5_1).toNat * 3)).block, (ad309.add ((x5_1).toNat * 3)).off + 1, none⟩ = some (.string ((rd_T81 l0 x5_1).f1)) ∧ w'.cell? ⟨(ad309.add ((x5_1).toNat * 3)).block, (ad309.add ((x5_1).toNat * 3)).off + 2, none⟩ = some (.slice A309_2 ((rd_T81 l0 x5_1).f2).length c309_2)) (ds := []) (bitsA 8 0) (by kernel_rfl) rfl rfl ⟨(cw hw309_0), (cw hw309_1), (cw hw309_2)⟩ (fun hHeld => ?_); refine with_tabW laws_heldSeriesS.tab4 laws_heldSeriesS.bits4 (fun HT_ HW_ => ?_)
             generalize wr.drew = w11 at HB HR309_2 hx309_0 hx309_1 hx309_2 hHeld ⊢
             refine pu 0 (some 12) (bitsA 8 1) ?_
             refine pu 1 (some 13) (bitsA 8 3) ?_
             refine pu 2 (some 14) (bitsA 8 7) ?_
             refine pu 3 (some 15) (bitsA 8 15) ?_
             refine tk 4 (some 16) (bitsA 8 31) hHeld ?_ (hy := Or.inl ⟨by rfl, by rintro w' ⟨s0, s1, s2⟩; go_simp; with_reducible rfl⟩)
             refine pu 5 (some 17) (bitsA 8 63) ?_
             refine one_ (i := 6) (N := some 18) (bitsA 8 127) rfl rfl (one_of HT_.out (by kernel_rfl)) (by decide) (fun K hK => ?_)
             refine goes_ Try.func82 (by kernel_rfl) rfl #[.int .i64 x1_1] (by rfl) rfl rfl mt ?_
             with_reducible refine (laws_markText.calls k1 x1_1 t310 _ A5.out).mono ?_
             rintro e w12 ⟨rfl, hb⟩
             refine ⟨_, rfl, ?_⟩
             replace HB := ak (below_step bl hb)
             (try clear hb)
             (try clear hb2)
             (try clear hk)
             (try clear hi)
             refine hK.out _ _ ⟨(cw hw309_0), (cw hw309_1), (cw hw309_2)⟩ (fun hHeld => ?_)
             clear hK K
             refine nm ?_
             refine pu 7 (some 19) (bitsA 8 255) ?_
             refine done_ (done_of HT_.out (by kernel_rfl)) ?_
             try go_wp2
             replace HB := ak (below_drew1 HB.out)
             have p311 : 0 ≤ (x5_1 : Int) := of_decide_eq_true am
             have q311 : x5_1 < (l0.length : Int) := of_decide_eq_true am
             obtain ⟨ad311, A311_2, c311_2, e311, hx311_0, hx311_1, hx311_2, hl311_2, hi311_2⟩ := at_T81 HR0.out x5_1 p311 q311
             have hw311_2 := hx311_2
             have hw311_1 := hx311_1
             have hw311_0 := hx311_0
             obtain rfl : ad309 = ad311 := (by injection e311)
             obtain ⟨rfl, rfl⟩ : A311_2 = A309_2 ∧ c311_2 = c309_2 := (by have h_ := hw309_2.symm.trans hx311_2; injection h_ with h_; injection h_ with h1_ _ h3_; exact ⟨h1_.symm, h3_.symm⟩)
             replace hx311_0 := cw hx311_0
             replace hx311_1 := cw hx311_1
             replace hx311_2 := cw hx311_2
             have HR311_2 := Aside0.mk hi311_2
             have HC311_2 := Aside0.mk hl311_2
             clear hi311_2 hl311_2
             replace p311 := eq_true p311
             replace q311 := eq_true q311
             refine start_ (n := 8) (S := fun w' => w'.cell? (ad309.add ((x5_1).toNat * 3)) = some (.string ((rd_T81 l0 x5_1).f0)) ∧ w'.cell? ⟨(ad309.add ((x5_1).toNat * 3)).block, (ad309.add ((x5_1).toNat * 3)).off + 1, none⟩ = some (.string ((rd_T81 l0 x5_1).f1)) ∧ w'.cell? ⟨(ad309.add ((x5_1).toNat * 3)).block, (ad309.add ((x5_1).toNat * 3)).off + 2, none⟩ = some (.slice A311_2 ((rd_T81 l0 x5_1).f2).length c311_2)) (ds := []) (bitsA 8 0) (by kernel_rfl) rfl rfl ⟨(cw hw311_0), (cw hw311_1), (cw hw311_2)⟩ (fun hHeld => ?_); refine with_tabW laws_heldSeriesS.tab7 laws_heldSeriesS.bits7 (fun HT_ HW_ => ?_)
             generalize w12.drew = w13 at HB HR311_2 hx311_0 hx311_1 hx311_2 hHeld ⊢
             refine pu 0 (some 22) (bitsA 8 1) ?_
             refine pu 1 (some 23) (bitsA 8 3) ?_
             refine pu 2 (some 24) (bitsA 8 7) ?_
             refine pu 3 (some 25) (bitsA 8 15) ?_
             refine tk 4 (some 26) (bitsA 8 31) hHeld ?_ (hy := Or.inl ⟨by rfl, by rintro w' ⟨s0, s1, s2⟩; go_simp; with_reducible rfl⟩)
             refine pu 5 (some 27) (bitsA 8 63) ?_
             refine one_ (i := 6) (N := some 28) (bitsA 8 127) rfl rfl (one_of HT_.out (by kernel_rfl)) (by decide) (fun K hK => ?_)
             refine goes_ Try.func82 (by kernel_rfl) rfl #[.int .i64 (wrap64 (x1_1 + 1))] (by rfl) rfl rfl mt ?_
             with_reducible refine (laws_markText.calls k1 (wrap64 (x1_1 + 1)) t312 _ A7.out).mono ?_
             rintro e w14 ⟨rfl, hb⟩
             refine ⟨_, rfl, ?_⟩
             replace HB := ak (below_step bl hb)
             (try clear hb)
             (try clear hb2)
             (try clear hk)
             (try clear hi)
             refine hK.out _ _ ⟨(cw hw311_0), (cw hw311_1), (cw hw311_2)⟩ (fun hHeld => ?_)
             clear hK K
             refine nm ?_
             refine pu 7 (some 29) (bitsA 8 255) ?_
             refine done_ (done_of HT_.out (by kernel_rfl)) ?_
             have p313 : 0 ≤ (x5_1 : Int) := of_decide_eq_true am
             have q313 : x5_1 < (l0.length : Int) := of_decide_eq_true am
             obtain ⟨ad313, A313_2, c313_2, e313, hx313_0, hx313_1, hx313_2, hl313_2, hi313_2⟩ := at_T81 HR0.out x5_1 p313 q313
             obtain rfl : ad309 = ad313 := (by injection e313)
             obtain ⟨rfl, rfl⟩ : A313_2 = A311_2 ∧ c313_2 = c311_2 := (by have h_ := hw311_2.symm.trans hx313_2; injection h_ with h_; injection h_ with h1_ _ h3_; exact ⟨h1_.symm, h3_.symm⟩)
             replace hx313_0 := cw hx313_0
             replace hx313_1 := cw hx313_1
             replace hx313_2 := cw hx313_2
             have HR313_2 := Aside0.mk hi313_2
             have HC313_2 := Aside0.mk hl313_2
             clear hi313_2 hl313_2
             replace p313 := eq_true p313
             replace q313 := eq_true q313
             try go_wp2_with (first | ((with_reducible refine gate_callee (f := 84) rfl ?_); refine gl (some 38) Try.func84 #[.slice A313_2 ((rd_T81 l0 x5_1).f2).length c313_2, .int .i64 (wrap64 ((wrap64 (x1_1 + 1)) + 1))] ?_; (with_reducible refine (laws_heldPointS.calls k1 _ _ ((rd_T81 l0 x5_1).f2) (wrap64 ((wrap64 (x1_1 + 1)) + 1)) t314 _ ?side1 ?side2 A9.out).mono ?_); (case side1 => exact cb HR313_2); (case side2 => exact HC313_2.out); rintro e w' ⟨rfl, ⟨nd, rfl⟩⟩; refine ⟨_, rfl, ?_⟩))
             go_ret
             exact ⟨ew, bl⟩
           · rw [if_neg c10] at H
             have c10b0 : decide (t314 < 0) = false := decide_eq_false c10
             clear c10
             have H' := Aside0.mk H
             clear H
             try go_wp2
             replace HB := ak (below_drew1 HB.out)
             have p309 : 0 ≤ (x5_1 : Int) := of_decide_eq_true am
             have q309 : x5_1 < (l0.length : Int) := of_decide_eq_true am
             obtain ⟨ad309, A309_2, c309_2, e309, hx309_0, hx309_1, hx309_2, hl309_2, hi309_2⟩ := at_T81 HR0.out x5_1 p309 q309
             have hw309_2 := hx309_2
             have hw309_1 := hx309_1
             have hw309_0 := hx309_0
             cases e309
             replace hx309_0 := cw hx309_0
             replace hx309_1 := cw hx309_1
             replace hx309_2 := cw hx309_2
             have HR309_2 := Aside0.mk hi309_2
             have HC309_2 := Aside0.mk hl309_2
             clear hi309_2 hl309_2
             replace p309 := eq_true p309
             replace q309 := eq_true q309
             refine start_ (n := 8) (S := fun w' => w'.cell? (ad309.add ((x5_1).toNat * 3)) = some (.string ((rd_T81 l0 x5_1).f0)) ∧ w'.cell? ⟨(ad309.add ((x5_1).toNat * 3)).block, (ad309.add ((x5_1).toNat * 3)).off + 1, none⟩ = some (.string ((rd_T81 l0 x5_1).f1)) ∧ w'.cell? ⟨(ad309.add ((x5_1).toNat * 3)).block, (ad309.add ((x5_1).toNat * 3)).off + 2, none⟩ = some (.slice A309_2 ((rd_T81 l0 x5_1).f2).length c309_2)) (ds := []) (bitsA 8 0) (by kernel_rfl) rfl rfl ⟨(cw hw309_0), (cw hw309_1), (cw hw309_2)⟩ (fun hHeld => ?_); refine with_tabW laws_heldSeriesS.tab4 laws_heldSeriesS.bits4 (fun HT_ HW_ => ?_)
             generalize wr.drew = w15 at HB HR309_2 hx309_0 hx309_1 hx309_2 hHeld ⊢
             refine pu 0 (some 12) (bitsA 8 1) ?_
             refine pu 1 (some 13) (bitsA 8 3) ?_
             refine pu 2 (some 14) (bitsA 8 7) ?_
             refine pu 3 (some 15) (bitsA 8 15) ?_
             refine tk 4 (some 16) (bitsA 8 31) hHeld ?_ (hy := Or.inl ⟨by rfl, by rintro w' ⟨s0, s1, s2⟩; go_simp; with_reducible rfl⟩)
             refine pu 5 (some 17) (bitsA 8 63) ?_
             refine one_ (i := 6) (N := some 18) (bitsA 8 127) rfl rfl (one_of HT_.out (by kernel_rfl)) (by decide) (fun K hK => ?_)
             refine goes_ Try.func82 (by kernel_rfl) rfl #[.int .i64 x1_1] (by rfl) rfl rfl mt ?_
             with_reducible refine (laws_markText.calls k1 x1_1 t310 _ A5.out).mono ?_
             rintro e w16 ⟨rfl, hb⟩
             refine ⟨_, rfl, ?_⟩
             replace HB := ak (below_step bl hb)
             (try clear hb)
             (try clear hb2)
             (try clear hk)
             (try clear hi)
             refine hK.out _ _ ⟨(cw hw309_0), (cw hw309_1), (cw hw309_2)⟩ (fun hHeld => ?_)
             clear hK K
             refine nm ?_
             refine pu 7 (some 19) (bitsA 8 255) ?_
             refine done_ (done_of HT_.out (by kernel_rfl)) ?_
             try go_wp2
             replace HB := ak (below_drew1 HB.out)
             have p311 : 0 ≤ (x5_1 : Int) := of_decide_eq_true am
             have q311 : x5_1 < (l0.length : Int) := of_decide_eq_true am
             obtain ⟨ad311, A311_2, c311_2, e311, hx311_0, hx311_1, hx311_2, hl311_2, hi311_2⟩ := at_T81 HR0.out x5_1 p311 q311
             have hw311_2 := hx311_2
             have hw311_1 := hx311_1
             have hw311_0 := hx311_0
             obtain rfl : ad309 = ad311 := (by injection e311)
             obtain ⟨rfl, rfl⟩ : A311_2 = A309_2 ∧ c311_2 = c309_2 := (by have h_ := hw309_2.symm.trans hx311_2; injection h_ with h_; injection h_ with h1_ _ h3_; exact ⟨h1_.symm, h3_.symm⟩)
             replace hx311_0 := cw hx311_0
             replace hx311_1 := cw hx311_1
             replace hx311_2 := cw hx311_2
             have HR311_2 := Aside0.mk hi311_2
             have HC311_2 := Aside0.mk hl311_2
             clear hi311_2 hl311_2
             replace p311 := eq_true p311
             replace q311 := eq_true q311
             refine start_ (n := 8) (S := fun w' => w'.cell? (ad309.add ((x5_1).toNat * 3)) = some (.string ((rd_T81 l0 x5_1).f0)) ∧ w'.cell? ⟨(ad309.add ((x5_1).toNat * 3)).block, (ad309.add ((x5_1).toNat * 3)).off + 1, none⟩ = some (.string ((rd_T81 l0 x5_1).f1)) ∧ w'.cell? ⟨(ad309.add ((x5_1).toNat * 3)).block, (ad309.add ((x5_1).toNat * 3)).off + 2, none⟩ = some (.slice A311_2 ((rd_T81 l0 x5_1).f2).length c311_2)) (ds := []) (bitsA 8 0) (by kernel_rfl) rfl rfl ⟨(cw hw311_0), (cw hw311_1), (cw hw311_2)⟩ (fun hHeld => ?_); refine with_tabW laws_heldSeriesS.tab7 laws_heldSeriesS.bits7 (fun HT_ HW_ => ?_)
             generalize w16.drew = w17 at HB HR311_2 hx311_0 hx311_1 hx311_2 hHeld ⊢
             refine pu 0 (some 22) (bitsA 8 1) ?_
             refine pu 1 (some 23) (bitsA 8 3) ?_
             refine pu 2 (some 24) (bitsA 8 7) ?_
             refine pu 3 (some 25) (bitsA 8 15) ?_
             refine tk 4 (some 26) (bitsA 8 31) hHeld ?_ (hy := Or.inl ⟨by rfl, by rintro w' ⟨s0, s1, s2⟩; go_simp; with_reducible rfl⟩)
             refine pu 5 (some 27) (bitsA 8 63) ?_
             refine one_ (i := 6) (N := some 28) (bitsA 8 127) rfl rfl (one_of HT_.out (by kernel_rfl)) (by decide) (fun K hK => ?_)
             refine goes_ Try.func82 (by kernel_rfl) rfl #[.int .i64 (wrap64 (x1_1 + 1))] (by rfl) rfl rfl mt ?_
             with_reducible refine (laws_markText.calls k1 (wrap64 (x1_1 + 1)) t312 _ A7.out).mono ?_
             rintro e w18 ⟨rfl, hb⟩
             refine ⟨_, rfl, ?_⟩
             replace HB := ak (below_step bl hb)
             (try clear hb)
             (try clear hb2)
             (try clear hk)
             (try clear hi)
             refine hK.out _ _ ⟨(cw hw311_0), (cw hw311_1), (cw hw311_2)⟩ (fun hHeld => ?_)
             clear hK K
             refine nm ?_
             refine pu 7 (some 29) (bitsA 8 255) ?_
             refine done_ (done_of HT_.out (by kernel_rfl)) ?_
             have p313 : 0 ≤ (x5_1 : Int) := of_decide_eq_true am
             have q313 : x5_1 < (l0.length : Int) := of_decide_eq_true am
             obtain ⟨ad313, A313_2, c313_2, e313, hx313_0, hx313_1, hx313_2, hl313_2, hi313_2⟩ := at_T81 HR0.out x5_1 p313 q313
             obtain rfl : ad309 = ad313 := (by injection e313)
             obtain ⟨rfl, rfl⟩ : A313_2 = A311_2 ∧ c313_2 = c311_2 := (by have h_ := hw311_2.symm.trans hx313_2; injection h_ with h_; injection h_ with h1_ _ h3_; exact ⟨h1_.symm, h3_.symm⟩)
             replace hx313_0 := cw hx313_0
             replace hx313_1 := cw hx313_1
             replace hx313_2 := cw hx313_2
             have HR313_2 := Aside0.mk hi313_2
             have HC313_2 := Aside0.mk hl313_2
             clear hi313_2 hl313_2
             replace p313 := eq_true p313
             replace q313 := eq_true q313
             try go_wp2_with (first | ((with_reducible refine gate_callee (f := 84) rfl ?_); refine gl (some 38) Try.func84 #[.slice A313_2 ((rd_T81 l0 x5_1).f2).length c313_2, .int .i64 (wrap64 ((wrap64 (x1_1 + 1)) + 1))] ?_; (with_reducible refine (laws_heldPointS.calls k1 _ _ ((rd_T81 l0 x5_1).f2) (wrap64 ((wrap64 (x1_1 + 1)) + 1)) t314 _ ?side1 ?side2 A9.out).mono ?_); (case side1 => exact cb HR313_2); (case side2 => exact HC313_2.out); rintro e w' ⟨rfl, ⟨nd, rfl⟩⟩; refine ⟨_, rfl, ?_⟩))
             go_roundg k1
             case measure => have := HK1.out; omega
             case rel => exact ⟨(t314), (wrap64 (x5_1 + 1)), es, es, H', ⟨kp⟩, ⟨bl⟩⟩
         · rw [if_neg c8] at H
           have c8b0 : (((rd_T81 l0 x5_1).f1).toList == t312.toList) = false := beq_eq_false_iff_ne.mpr c8
           have c8b1 : (((rd_T81 l0 x5_1).f1).toList != t312.toList) = true := bne_iff_ne.mpr c8
           obtain rfl := Option.some.inj H
           try go_wp2
           replace HB := ak (below_drew1 HB.out)
           have p309 : 0 ≤ (x5_1 : Int) := of_decide_eq_true am
           have q309 : x5_1 < (l0.length : Int) := of_decide_eq_true am
           obtain ⟨ad309, A309_2, c309_2, e309, hx309_0, hx309_1, hx309_2, hl309_2, hi309_2⟩ := at_T81 HR0.out x5_1 p309 q309
           have hw309_2 := hx309_2
           have hw309_1 := hx309_1
           have hw309_0 := hx309_0
           cases e309
           replace hx309_0 := cw hx309_0
           replace hx309_1 := cw hx309_1
           replace hx309_2 := cw hx309_2
           have HR309_2 := Aside0.mk hi309_2
           have HC309_2 := Aside0.mk hl309_2
           clear hi309_2 hl309_2
           replace p309 := eq_true p309
           replace q309 := eq_true q309
           refine start_ (n := 8) (S := fun w' => w'.cell? (ad309.add ((x5_1).toNat * 3)) = some (.string ((rd_T81 l0 x5_1).f0)) ∧ w'.cell? ⟨(ad309.add ((x5_1).toNat * 3)).block, (ad309.add ((x5_1).toNat * 3)).off + 1, none⟩ = some (.string ((rd_T81 l0 x5_1).f1)) ∧ w'.cell? ⟨(ad309.add ((x5_1).toNat * 3)).block, (ad309.add ((x5_1).toNat * 3)).off + 2, none⟩ = some (.slice A309_2 ((rd_T81 l0 x5_1).f2).length c309_2)) (ds := []) (bitsA 8 0) (by kernel_rfl) rfl rfl ⟨(cw hw309_0), (cw hw309_1), (cw hw309_2)⟩ (fun hHeld => ?_); refine with_tabW laws_heldSeriesS.tab4 laws_heldSeriesS.bits4 (fun HT_ HW_ => ?_)
           generalize wr.drew = w19 at HB HR309_2 hx309_0 hx309_1 hx309_2 hHeld ⊢
           refine pu 0 (some 12) (bitsA 8 1) ?_
           refine pu 1 (some 13) (bitsA 8 3) ?_
           refine pu 2 (some 14) (bitsA 8 7) ?_
           refine pu 3 (some 15) (bitsA 8 15) ?_
           refine tk 4 (some 16) (bitsA 8 31) hHeld ?_ (hy := Or.inl ⟨by rfl, by rintro w' ⟨s0, s1, s2⟩; go_simp; with_reducible rfl⟩)
           refine pu 5 (some 17) (bitsA 8 63) ?_
           refine one_ (i := 6) (N := some 18) (bitsA 8 127) rfl rfl (one_of HT_.out (by kernel_rfl)) (by decide) (fun K hK => ?_)
           refine goes_ Try.func82 (by kernel_rfl) rfl #[.int .i64 x1_1] (by rfl) rfl rfl mt ?_
           with_reducible refine (laws_markText.calls k1 x1_1 t310 _ A5.out).mono ?_
           rintro e w20 ⟨rfl, hb⟩
           refine ⟨_, rfl, ?_⟩
           replace HB := ak (below_step bl hb)
           (try clear hb)
           (try clear hb2)
           (try clear hk)
           (try clear hi)
           refine hK.out _ _ ⟨(cw hw309_0), (cw hw309_1), (cw hw309_2)⟩ (fun hHeld => ?_)
           clear hK K
           refine nm ?_
           refine pu 7 (some 19) (bitsA 8 255) ?_
           refine done_ (done_of HT_.out (by kernel_rfl)) ?_
           try go_wp2
           replace HB := ak (below_drew1 HB.out)
           have p311 : 0 ≤ (x5_1 : Int) := of_decide_eq_true am
           have q311 : x5_1 < (l0.length : Int) := of_decide_eq_true am
           obtain ⟨ad311, A311_2, c311_2, e311, hx311_0, hx311_1, hx311_2, hl311_2, hi311_2⟩ := at_T81 HR0.out x5_1 p311 q311
           have hw311_2 := hx311_2
           have hw311_1 := hx311_1
           have hw311_0 := hx311_0
           obtain rfl : ad309 = ad311 := (by injection e311)
           obtain ⟨rfl, rfl⟩ : A311_2 = A309_2 ∧ c311_2 = c309_2 := (by have h_ := hw309_2.symm.trans hx311_2; injection h_ with h_; injection h_ with h1_ _ h3_; exact ⟨h1_.symm, h3_.symm⟩)
           replace hx311_0 := cw hx311_0
           replace hx311_1 := cw hx311_1
           replace hx311_2 := cw hx311_2
           have HR311_2 := Aside0.mk hi311_2
           have HC311_2 := Aside0.mk hl311_2
           clear hi311_2 hl311_2
           replace p311 := eq_true p311
           replace q311 := eq_true q311
           refine start_ (n := 8) (S := fun w' => w'.cell? (ad309.add ((x5_1).toNat * 3)) = some (.string ((rd_T81 l0 x5_1).f0)) ∧ w'.cell? ⟨(ad309.add ((x5_1).toNat * 3)).block, (ad309.add ((x5_1).toNat * 3)).off + 1, none⟩ = some (.string ((rd_T81 l0 x5_1).f1)) ∧ w'.cell? ⟨(ad309.add ((x5_1).toNat * 3)).block, (ad309.add ((x5_1).toNat * 3)).off + 2, none⟩ = some (.slice A311_2 ((rd_T81 l0 x5_1).f2).length c311_2)) (ds := []) (bitsA 8 0) (by kernel_rfl) rfl rfl ⟨(cw hw311_0), (cw hw311_1), (cw hw311_2)⟩ (fun hHeld => ?_); refine with_tabW laws_heldSeriesS.tab7 laws_heldSeriesS.bits7 (fun HT_ HW_ => ?_)
           generalize w20.drew = w21 at HB HR311_2 hx311_0 hx311_1 hx311_2 hHeld ⊢
           refine pu 0 (some 22) (bitsA 8 1) ?_
           refine pu 1 (some 23) (bitsA 8 3) ?_
           refine pu 2 (some 24) (bitsA 8 7) ?_
           refine pu 3 (some 25) (bitsA 8 15) ?_
           refine tk 4 (some 26) (bitsA 8 31) hHeld ?_ (hy := Or.inl ⟨by rfl, by rintro w' ⟨s0, s1, s2⟩; go_simp; with_reducible rfl⟩)
           refine pu 5 (some 27) (bitsA 8 63) ?_
           refine one_ (i := 6) (N := some 28) (bitsA 8 127) rfl rfl (one_of HT_.out (by kernel_rfl)) (by decide) (fun K hK => ?_)
           refine goes_ Try.func82 (by kernel_rfl) rfl #[.int .i64 (wrap64 (x1_1 + 1))] (by rfl) rfl rfl mt ?_
           with_reducible refine (laws_markText.calls k1 (wrap64 (x1_1 + 1)) t312 _ A7.out).mono ?_
           rintro e w22 ⟨rfl, hb⟩
           refine ⟨_, rfl, ?_⟩
           replace HB := ak (below_step bl hb)
           (try clear hb)
           (try clear hb2)
           (try clear hk)
           (try clear hi)
           refine hK.out _ _ ⟨(cw hw311_0), (cw hw311_1), (cw hw311_2)⟩ (fun hHeld => ?_)
           clear hK K
           refine nm ?_
           refine pu 7 (some 29) (bitsA 8 255) ?_
           refine done_ (done_of HT_.out (by kernel_rfl)) ?_
           try go_wp2
           go_ret
           exact ⟨ew, bl⟩
       · rw [if_neg c6] at H
         have c6b0 : (((rd_T81 l0 x5_1).f0).toList == t310.toList) = false := beq_eq_false_iff_ne.mpr c6
         have c6b1 : (((rd_T81 l0 x5_1).f0).toList != t310.toList) = true := bne_iff_ne.mpr c6
         obtain rfl := Option.some.inj H
         try go_wp2
         replace HB := ak (below_drew1 HB.out)
         have p309 : 0 ≤ (x5_1 : Int) := of_decide_eq_true am
         have q309 : x5_1 < (l0.length : Int) := of_decide_eq_true am
         obtain ⟨ad309, A309_2, c309_2, e309, hx309_0, hx309_1, hx309_2, hl309_2, hi309_2⟩ := at_T81 HR0.out x5_1 p309 q309
         have hw309_2 := hx309_2
         have hw309_1 := hx309_1
         have hw309_0 := hx309_0
         cases e309
         replace hx309_0 := cw hx309_0
         replace hx309_1 := cw hx309_1
         replace hx309_2 := cw hx309_2
         have HR309_2 := Aside0.mk hi309_2
         have HC309_2 := Aside0.mk hl309_2
         clear hi309_2 hl309_2
         replace p309 := eq_true p309
         replace q309 := eq_true q309
         refine start_ (n := 8) (S := fun w' => w'.cell? (ad309.add ((x5_1).toNat * 3)) = some (.string ((rd_T81 l0 x5_1).f0)) ∧ w'.cell? ⟨(ad309.add ((x5_1).toNat * 3)).block, (ad309.add ((x5_1).toNat * 3)).off + 1, none⟩ = some (.string ((rd_T81 l0 x5_1).f1)) ∧ w'.cell? ⟨(ad309.add ((x5_1).toNat * 3)).block, (ad309.add ((x5_1).toNat * 3)).off + 2, none⟩ = some (.slice A309_2 ((rd_T81 l0 x5_1).f2).length c309_2)) (ds := []) (bitsA 8 0) (by kernel_rfl) rfl rfl ⟨(cw hw309_0), (cw hw309_1), (cw hw309_2)⟩ (fun hHeld => ?_); refine with_tabW laws_heldSeriesS.tab4 laws_heldSeriesS.bits4 (fun HT_ HW_ => ?_)
         generalize wr.drew = w23 at HB HR309_2 hx309_0 hx309_1 hx309_2 hHeld ⊢
         refine pu 0 (some 12) (bitsA 8 1) ?_
         refine pu 1 (some 13) (bitsA 8 3) ?_
         refine pu 2 (some 14) (bitsA 8 7) ?_
         refine pu 3 (some 15) (bitsA 8 15) ?_
         refine tk 4 (some 16) (bitsA 8 31) hHeld ?_ (hy := Or.inl ⟨by rfl, by rintro w' ⟨s0, s1, s2⟩; go_simp; with_reducible rfl⟩)
         refine pu 5 (some 17) (bitsA 8 63) ?_
         refine one_ (i := 6) (N := some 18) (bitsA 8 127) rfl rfl (one_of HT_.out (by kernel_rfl)) (by decide) (fun K hK => ?_)
         refine goes_ Try.func82 (by kernel_rfl) rfl #[.int .i64 x1_1] (by rfl) rfl rfl mt ?_
         with_reducible refine (laws_markText.calls k1 x1_1 t310 _ A5.out).mono ?_
         rintro e w24 ⟨rfl, hb⟩
         refine ⟨_, rfl, ?_⟩
         replace HB := ak (below_step bl hb)
         (try clear hb)
         (try clear hb2)
         (try clear hk)
         (try clear hi)
         refine hK.out _ _ ⟨(cw hw309_0), (cw hw309_1), (cw hw309_2)⟩ (fun hHeld => ?_)
         clear hK K
         refine nm ?_
         refine pu 7 (some 19) (bitsA 8 255) ?_
         refine done_ (done_of HT_.out (by kernel_rfl)) ?_
         try go_wp2
         go_ret
         exact ⟨ew, bl⟩
     · rw [if_neg c4] at H
       exact absurd H (by simp)
   · rw [if_neg c3] at H
     have c3b0 : decide (x5_1 < (l0.length : Int)) = false := decide_eq_false c3
     clear c3
     obtain rfl := Option.some.inj H
     go_wp2
     go_ret
     exact ⟨ew, bl⟩

end Go.Proofs.Ytplekidnlofioaa.Q
namespace Go.Proofs.Ytplekidnlofioaa.Q
open Go.RowKit Go.Proofs.YtplekidnlofioaaW.PrintWords Go.Proofs.YtplekidnlofioaaW.PrintLast
theorem strOne (v : Int) : (strOfNums [v]).size = 1 := by simp [strOfNums, ByteArray.size]
theorem markText_l0 (n : Nat) : ∀ (x : Int) (b : ByteArray), x.toNat ≤ n → x ≤ 4611686018427387904 → b.size + n ≤ 9223372036854775800 → ∃ t, Ev (fun k => laws_markText.l0 k x b) t := by
  induction n with
  | zero =>
    intro x b h _ hb
    refine ⟨(⟨#[109]⟩ : ByteArray) ++ b, Ev.step (fun k => by rw [laws_markText.l0]) ?_⟩
    have h1 : ¬ x > 0 := by omega
    have h2 : 1 + b.size ≤ 9223372036854775807 := by omega
    simp only [if_neg h1, if_pos h2]
    exact Ev.now _
  | succ n ih =>
    intro x b h hx hb
    by_cases c : x > 0
    · have e : wrap64 (Int.tdiv x 10) = x / 10 := by rw [Int.tdiv_eq_ediv_of_nonneg (by omega)]; unfold wrap64; omega
      have h2 : (strOfNums [(wrap64 (48 + (Int.tmod x 10))) % 256]).size + b.size ≤ 9223372036854775807 := by rw [strOne]; omega
      obtain ⟨t, ht⟩ := ih (x / 10) (strOfNums [(wrap64 (48 + (Int.tmod x 10))) % 256] ++ b) (by omega) (by omega) (by rw [ByteArray.size_append, strOne]; omega)
      refine ⟨t, Ev.step (fun k => by rw [laws_markText.l0]) ?_⟩
      simp only [if_pos c, Option.bind_some, if_pos h2, e]
      exact ht
    · refine ⟨(⟨#[109]⟩ : ByteArray) ++ b, Ev.step (fun k => by rw [laws_markText.l0]) ?_⟩
      have h2 : 1 + b.size ≤ 9223372036854775807 := by omega
      simp only [if_neg c, if_pos h2]
      exact Ev.now _
theorem markText_some (a : Int) (h : a ≤ 4611686018427387904) : ∃ t, Ev (fun k => laws_markText.f k a) t := by
  by_cases c : a ≤ 0
  · exact ⟨(⟨#[109, 48]⟩ : ByteArray), by unfold laws_markText.f; simp only [if_pos c]; exact Ev.now _⟩
  · obtain ⟨t, ht⟩ := markText_l0 a.toNat a ⟨#[]⟩ (Nat.le_refl _) h (by show 0 + a.toNat ≤ _; omega)
    exact ⟨t, by unfold laws_markText.f; simp only [if_neg c]; exact ht⟩
open Classical in
noncomputable def markT (a : Int) : ByteArray := if h : ∃ t, Ev (fun k => laws_markText.f k a) t then h.choose else ⟨#[]⟩
theorem markT_ev (a : Int) (h : a ≤ 4611686018427387904) : Ev (fun k => laws_markText.f k a) (markT a) := by
  have h2 := markText_some a h
  unfold markT
  rw [dif_pos h2]
  exact h2.choose_spec
def markP : Int → List S37 → List S37
  | _, [] => []
  | a, _ :: r => ⟨a, a + 1⟩ :: markP (a + 2) r
theorem markPointS_l0_ev : ∀ (suf pre : List S37) (a : Int), 0 ≤ a → a + 2 * suf.length ≤ 4611686018427387904 → pre.length + suf.length ≤ 4611686018427387900 → Ev (fun k => laws_markPointS.l0 k (pre ++ suf) a (pre.length : Int)) (a + 2 * suf.length, pre ++ markP a suf) := by
  intro suf
  induction suf with
  | nil =>
    intro pre a _ _ _
    refine Ev.step (fun k => by rw [laws_markPointS.l0]) ?_
    simp only [if_neg (not_lt_end pre), markP]
    have : a + 2 * (([] : List S37).length : Int) = a := by simp
    rw [this]
    exact Ev.now _
  | cons p suf ih =>
    intro pre a h0 h1 h2
    rw [List.length_cons] at h1 h2
    have hr := ih (pre ++ [⟨a, a + 1⟩]) (a + 2) (by omega) (by omega) (by rw [List.length_append, List.length_singleton]; omega)
    rw [List.length_append, List.length_singleton, List.append_assoc, List.append_assoc] at hr
    refine Ev.step (fun k => by rw [laws_markPointS.l0]) ?_
    have hw := wrapn pre.length (by omega)
    have hw1 : wrap64 (a + 1) = a + 1 := by unfold wrap64; omega
    have hw2 : wrap64 ((a + 1) + 1) = a + 2 := by unfold wrap64; omega
    have e : a + 2 + 2 * (suf.length : Int) = a + 2 * ((p :: suf).length : Int) := by rw [List.length_cons]; omega
    simp only [if_pos (lt_mid _ _ _), if_pos (nn _), hw, hw1, hw2, Int.toNat_natCast, rdP_mid, set_mid, Option.bind_some]
    rw [e] at hr
    exact hr
theorem markPointS_ev (l : List S37) (a : Int) (h0 : 0 ≤ a) (h1 : a + 2 * l.length ≤ 4611686018427387904) : Ev (fun k => laws_markPointS.f k l a) (a + 2 * l.length, markP a l) := markPointS_l0_ev l [] a h0 h1 (by simp; omega)
theorem heldPointS_l0_ev (xs : List S37) : ∀ (suf pre : List S37) (a : Int), xs = pre ++ markP a suf → 0 ≤ a → a + 2 * suf.length ≤ 4611686018427387904 → pre.length + suf.length ≤ 4611686018427387900 → Ev (fun k => laws_heldPointS.l0 k xs a (pre.length : Int)) (a + 2 * suf.length) := by
  intro suf
  induction suf with
  | nil =>
    intro pre a h _ _ _
    subst h
    refine Ev.step (fun k => by rw [laws_heldPointS.l0]) ?_
    have hlt : ¬ ((pre.length : Int) < ((pre ++ markP a []).length : Int)) := by simp [markP]
    simp only [if_neg hlt]
    have : a + 2 * (([] : List S37).length : Int) = a := by simp
    rw [this]
    exact Ev.now _
  | cons p suf ih =>
    intro pre a h h0 h1 h2
    rw [List.length_cons] at h1 h2
    have hr := ih (pre ++ [⟨a, a + 1⟩]) (a + 2) (by rw [h]; simp [markP]) (by omega) (by omega) (by rw [List.length_append, List.length_singleton]; omega)
    rw [List.length_append, List.length_singleton] at hr
    refine Ev.step (fun k => by rw [laws_heldPointS.l0]) ?_
    have hw := wrapn pre.length (by omega)
    have hw1 : wrap64 (a + 1) = a + 1 := by unfold wrap64; omega
    have hw2 : wrap64 ((a + 1) + 1) = a + 2 := by unfold wrap64; omega
    have e : a + 2 + 2 * (suf.length : Int) = a + 2 * ((p :: suf).length : Int) := by rw [List.length_cons]; omega
    have hlt : (pre.length : Int) < (xs.length : Int) := by rw [h]; exact lt_mid _ _ _
    have hrd : rd_T37 xs (pre.length : Int) = ⟨a, a + 1⟩ := by rw [h]; exact rdP_mid _ _ _
    simp only [if_pos hlt, if_pos (nn _), hrd, hw, hw1, hw2, if_true]
    rw [e] at hr
    exact hr
theorem heldPointS_ev (l : List S37) (a : Int) (h0 : 0 ≤ a) (h1 : a + 2 * l.length ≤ 4611686018427387904) : Ev (fun k => laws_heldPointS.f k (markP a l) a) (a + 2 * l.length) := heldPointS_l0_ev _ l [] a rfl h0 h1 (by simp; omega)
def mkN : List S81 → Int
  | [] => 0
  | s :: r => 2 + 2 * s.f2.length + mkN r
theorem mkN_nn : ∀ l, 0 ≤ mkN l
  | [] => Int.le_refl _
  | s :: r => by have := mkN_nn r; simp only [mkN]; omega
theorem mkN_app : ∀ (a b : List S81), mkN (a ++ b) = mkN a + mkN b
  | [], b => by simp [mkN]
  | s :: r, b => by simp only [List.cons_append, mkN, mkN_app r b]; omega
noncomputable def markS : Int → List S81 → List S81
  | _, [] => []
  | a, s :: r => ⟨markT a, markT (a + 1), markP (a + 2) s.f2⟩ :: markS (a + 2 + 2 * s.f2.length) r
theorem markS_len : ∀ (r : List S81) (a : Int), (markS a r).length = r.length
  | [], _ => rfl
  | _ :: r, a => by simp only [markS, List.length_cons, markS_len r]
theorem markS_app : ∀ (r t : List S81) (a : Int), markS a (r ++ t) = markS a r ++ markS (a + mkN r) t
  | [], t, a => by simp [markS, mkN]
  | s :: r, t, a => by
    simp only [List.cons_append, markS, mkN, markS_app r t]
    rw [show a + 2 + 2 * (s.f2.length : Int) + mkN r = a + (2 + 2 * (s.f2.length : Int) + mkN r) from by omega]
theorem heldSeriesS_l0_ev (xs : List S81) : ∀ (suf pre : List S81) (a : Int), xs = pre ++ markS a suf → 0 ≤ a → a + mkN suf ≤ 4611686018427387000 → pre.length + suf.length ≤ 4611686018427387900 → Ev (fun k => laws_heldSeriesS.l0 k xs a (pre.length : Int)) (a + mkN suf) := by
  intro suf
  induction suf with
  | nil =>
    intro pre a h _ _ _
    subst h
    refine Ev.step (fun k => by rw [laws_heldSeriesS.l0]) ?_
    have hlt : ¬ ((pre.length : Int) < ((pre ++ markS a []).length : Int)) := by simp [markS]
    simp only [if_neg hlt, mkN, Int.add_zero]
    exact Ev.now _
  | cons s suf ih =>
    intro pre a h h0 h1 h2
    have hn := mkN_nn suf
    simp only [mkN] at h1 ⊢
    rw [List.length_cons] at h2
    have hr := ih (pre ++ [⟨markT a, markT (a + 1), markP (a + 2) s.f2⟩]) (a + 2 + 2 * s.f2.length) (by rw [h]; simp [markS]) (by omega) (by omega) (by rw [List.length_append, List.length_singleton]; omega)
    rw [List.length_append, List.length_singleton] at hr
    refine Ev.step (fun k => by rw [laws_heldSeriesS.l0]) ?_
    have hw := wrapn pre.length (by omega)
    have hw1 : wrap64 (a + 1) = a + 1 := by unfold wrap64; omega
    have hw2 : wrap64 ((a + 1) + 1) = a + 2 := by unfold wrap64; omega
    have hlt : (pre.length : Int) < (xs.length : Int) := by rw [h]; exact lt_mid _ _ _
    have hrd : rd_T81 xs (pre.length : Int) = ⟨markT a, markT (a + 1), markP (a + 2) s.f2⟩ := by rw [h]; exact rdS_mid _ _ _
    simp only [if_pos hlt, if_pos (nn _), hrd, hw, hw1, hw2]
    refine Ev.bind (markT_ev a (by omega)) ?_
    simp only [if_true]
    refine Ev.bind (markT_ev (a + 1) (by omega)) ?_
    simp only [if_true]
    refine Ev.bind (heldPointS_ev s.f2 (a + 2) (by omega) (by omega)) ?_
    have hneg : ¬ (a + 2 + 2 * (s.f2.length : Int) < 0) := by omega
    simp only [if_neg hneg]
    rw [show a + (2 + 2 * (s.f2.length : Int) + mkN suf) = a + 2 + 2 * (s.f2.length : Int) + mkN suf from by omega]
    exact hr
theorem heldSeriesS_ev (l : List S81) (a : Int) (h0 : 0 ≤ a) (h1 : a + mkN l ≤ 4611686018427387000) (hl : l.length ≤ 4611686018427387900) : Ev (fun k => laws_heldSeriesS.f k (markS a l) a) (a + mkN l) := heldSeriesS_l0_ev _ l [] a rfl h0 h1 (by simpa using hl)
end Go.Proofs.Ytplekidnlofioaa.Q
namespace Go.Proofs.Ytplekidnlofioaa.Q
open Go.RowKit Go.Proofs.YtplekidnlofioaaW.PrintWords Go.Proofs.YtplekidnlofioaaW.PrintLast Go.Proofs.YtplekidnlofioaaW.PrintMore
attribute [local go_sem] max2_int min2_int max_two min_two max_three min_three max_four min_four
set_option linter.unusedVariables false
set_option linter.unusedSimpArgs false
theorem rounds_of {α : Type} {f : Nat → Option α} {r : α} (h : Ev f r) : ∃ k, f k = some r := Ev.rounds h
theorem wrap_eq (x y : Int) (h : y = x + 1) (h0 : 0 ≤ x) (h1 : x ≤ 4611686018427387904) : IntKind.i64.wrap (x + 1) = y := (i64_w _).trans (by rw [h]; unfold wrap64; omega)
theorem kt {p : Prop} (h : p := by repeat (first | (with_reducible first | exact HK.out | apply Kept.alloc | apply Kept.drewN | apply Kept.drew) | exact HK.out)) : p := h
set_option maxHeartbeats 8000000 in
set_option maxRecDepth 100000 in
theorem laws_markSeriesS_calls (P0_ : Nat → Prop) (u : Value) (l : List S81) (a : Int) (w0 w : World) (hB : Below w0.heap.size w0 w) (ho : Kd.S k81 81 w w0.heap.size P0_ u l) (h0 : 0 ≤ a) (h1 : a + mkN l ≤ 4611686018427387000) (hl : l.length ≤ 4611686018427387000) :
    Calls Try.prog 25 #[u, .int .i64 a] w fun e w' => e = .returned (.int .i64 (a + mkN l)) ∧ Kd.S k81 81 w' w0.heap.size (fun k_ => P0_ k_ ∨ w.heap.size ≤ k_) u (markS a l) ∧ Below w0.heap.size w0 w' ∧ Kept w w' P0_ := by
  have HO0 := ak (show Kd.S k81 81 w w0.heap.size (fun k_ => (P0_ k_ ∨ w.heap.size ≤ k_)) u l from Kd.S_mono ho (fun k_ hk => .inl hk))
  have HK := ak (Kept.refl w P0_)
  have HW0 := ak hB.size
  have HB := ak hB
  have AR := ak (show 0 ≤ a ∧ a + mkN l ≤ 4611686018427387000 ∧ l.length ≤ 4611686018427387000 from ⟨h0, h1, hl⟩)
  clear hB ho h0 h1 hl
  go_enter Try.func25, Try.ntmps25
  go_wp2
  go_loopg [1, 5] l.length (fun kq v1 v5 w' => ∃ (pre suf : List S81) (x1 x5 : Int), v1 = .int .i64 x1 ∧ v5 = .int .i64 x5 ∧ Aside0 (l = pre ++ suf ∧ x1 = a + mkN pre ∧ x5 = (pre.length : Int) ∧ suf.length ≤ kq) ∧ Aside0 (Kd.S k81 81 w' w0.heap.size (fun k_ => (P0_ k_ ∨ w.heap.size ≤ k_)) u (markS a pre ++ suf)) ∧ Aside0 (Kept w w' P0_) ∧ Aside0 (Below w0.heap.size w0 w'))
  case atStart => exact ⟨[], l, a, 0, rfl, rfl, ⟨rfl, by simp [mkN], rfl, Nat.le_refl _⟩, ⟨ks HO0⟩, ⟨kt⟩, ⟨bl⟩⟩
  case round =>
    obtain ⟨pre, suf, x1, x5, rfl, rfl, HA, HO, HK, HB⟩ := hrel
    cases suf with
    | nil =>
      obtain ⟨hl, e1, e5, _⟩ := HA.out
      rw [List.append_nil] at hl
      subst hl
      rw [List.append_nil] at HO
      obtain ⟨Ao, co, eo⟩ := Kd.S_slice HO.out
      have c3b0 : decide (x5 < ((markS a l).length : Int)) = false := decide_eq_false (by rw [markS_len, e5]; omega)
      subst eo
      clear e5
      go_wp2
      go_ret
      exact ⟨by first | rfl | (rw [e1]; rfl), ks HO, bl, kt⟩
    | cons s suf =>
      obtain ⟨hl, e1, e5, hk⟩ := HA.out
      obtain ⟨a0, a1, a2⟩ := AR.out
      have hn1 := mkN_nn pre
      have hn2 := mkN_nn suf
      have hn3 : mkN l = mkN pre + (2 + 2 * (s.f2.length : Int) + mkN suf) := by rw [hl, mkN_app]; rfl
      have hl3 : l.length = pre.length + (suf.length + 1) := by rw [hl, List.length_append, List.length_cons]
      obtain ⟨k1, hk1⟩ := rounds_of (markT_ev x1 (by omega))
      obtain ⟨x2, hx2⟩ : ∃ y, y = x1 + 1 := ⟨_, rfl⟩
      obtain ⟨x3, hx3⟩ : ∃ y, y = x2 + 1 := ⟨_, rfl⟩
      obtain ⟨x6, hx6⟩ : ∃ y, y = x5 + 1 := ⟨_, rfl⟩
      obtain ⟨k2, hk2⟩ := rounds_of (markT_ev x2 (by omega))
      obtain ⟨k3, hk3⟩ := rounds_of (markPointS_ev s.f2 x3 (by omega) (by omega))
      obtain ⟨x4, hx4⟩ : ∃ y, y = x3 + 2 * (s.f2.length : Int) := ⟨_, rfl⟩
      rw [← hx4] at hk3
      have w12 := wrap_eq x1 x2 hx2 (by omega) (by omega)
      have w23 := wrap_eq x2 x3 hx3 (by omega) (by omega)
      have w56 := wrap_eq x5 x6 hx6 (by omega) (by omega)
      have K1 := ak hk1
      have K2 := ak hk2
      have K3 := ak hk3
      have HN := ak (show x4 = a + mkN (pre ++ [s]) ∧ x6 = ((pre ++ [s]).length : Int) ∧ l = (pre ++ [s]) ++ suf from ⟨by rw [mkN_app]; simp only [mkN]; omega, by rw [List.length_append, List.length_singleton]; omega, by rw [hl]; simp⟩)
      have HL := ak (show markS a pre ++ ⟨markT x1, markT x2, markP x3 s.f2⟩ :: suf = markS a (pre ++ [s]) ++ suf from by rw [markS_app]; simp only [markS, List.append_assoc, List.singleton_append]; rw [← e1, ← hx2, show x1 + 2 = x3 from by omega])
      have htn : x5.toNat = (markS a pre).length := by rw [markS_len]; omega
      have hg1 : ∀ y : S81, (markS a pre ++ y :: suf).getD x5.toNat z81 = y := fun y => by rw [htn]; exact getD_mid _ _ _ _
      have hg2 : ∀ y z : S81, (markS a pre ++ y :: suf).set x5.toNat z = markS a pre ++ z :: suf := fun y z => by rw [htn]; exact set_mid _ _ _ _
      have hll : ∀ y : S81, (markS a pre ++ y :: suf).length = l.length := fun y => by rw [List.length_append, List.length_cons, markS_len, hl3]
      have G1 := ak hg1
      have G2 := ak hg2
      obtain ⟨n, hn⟩ : ∃ n, n = l.length := ⟨_, rfl⟩
      have GL := ak (show ∀ y : S81, (markS a pre ++ y :: suf).length = n from fun y => (hll y).trans hn.symm)
      have pz : 0 ≤ x5 := by omega
      have qz : x5 < (n : Int) := by omega
      have HM := ak hk
      obtain ⟨g, cap, eo, gb, gl_, cl, HG⟩ := Kd.S_form HO.out (by rw [hll]; omega)
      rw [hll, ← hn] at eo
      have GB := ak gb
      subst eo
      have PZ := ak pz
      have QZ := ak qz
      have c3b0 : decide (x5 < (n : Int)) = true := decide_eq_true qz
      replace pz := eq_true pz
      replace qz := eq_true qz
      clear hk1 hk2 hk3 hx4 hx2 hx3 hx6 e1 e5 hk hl hl3 hn1 hn2 hn3 htn hg1 hg2 hll hn a0 a1 a2 gb gl_ cl HG
      go_wp2_with (first | ((with_reducible refine gate_dst (N := 15) rfl ?_); refine gl (some 15) Try.func82 #[.int .i64 x1] ?_; (refine (laws_markText.calls _ x1 (markT x1) _ K1.out).mono ?_); rintro e w1 ⟨rfl, hb⟩; refine ⟨_, rfl, ?_⟩; replace HO := ak (Kd.S_below (ks HO) hb); replace HK := ak (Kept.below (S := P0_) kt hb); replace HB := ak (below_step bl hb); clear hb; obtain ⟨oki, c_, hcl, hM, hcc, hfr, hoki, hH⟩ := Kd.S_elem HO.out z81 x5 PZ.out QZ.out; rw [G1.out] at hM; obtain ⟨v2, rfl, hR⟩ := k81_openM hM; have hx_ : w1.cell? ⟨g, x5.toNat * 3, none⟩ = some (.string s.f0) := hcc 0 _ rfl; have hf_ : w1.frozen? ⟨g, x5.toNat * 3, none⟩ = false := hfr 0; have HS := Kd.S_seg (okg := fun _ => False) (Kd.H_mono hH (fun k hk => ⟨hk, fun h => h⟩)) PZ.out QZ.out (seg := [.string (markT x1)]) (j := 0) (show 0 + 1 ≤ 3 from by decide) (x' := (⟨markT x1, s.f1, s.f2⟩ : S81)) (k81_mkM _ _ _ (⟨markT x1, s.f1, s.f2⟩ : S81) hR) (fun k hk => .inl hk) (fun k hk => hk.elim); clear hcl hcc hfr hM hH hoki hR) | ((with_reducible refine gate_store (t := 9) (p := 17) rfl ?_); refine store_event (t := 9) (p := 17) (v := ?vo_w) (w1 := (w1.setCell ⟨g, x5.toNat * 3, none⟩ (.string (markT x1)))) ?hg ?ho ?hn ?hr ?_; (case ho => rfl); (case hg => rfl); (case hn => rfl); (case hr => first | (go_simp; done) | (go_simp; rfl)); intro w2 hw; have hg : w1.grownBy w2 (some g) := (by rw [hw]; exact HS.2); have hp_ : Kd.S k81 81 w2 w0.heap.size (fun k_ => (P0_ k_ ∨ w.heap.size ≤ k_)) (.slice (some ⟨g, 0, none⟩) n cap) (markS a pre ++ (⟨markT x1, s.f1, s.f2⟩ : S81) :: suf) := (by rw [hw, ← G2.out]; exact HS.1); clear HS hx_ hf_; replace HK := ak (Kept.of_grown (S := P0_) hg kt (fun k_ e_ => (Kd.S_R HO.out).1 k_ e_)); replace HB := ak (by rw [hw]; exact below_set HB.out GB.out : Below w0.heap.size w0 w2); replace HO := ak hp_; clear hg hw hp_) | ((with_reducible refine gate_dst (N := 23) rfl ?_); refine gl (some 23) Try.func82 #[.int .i64 x2] ?_; (refine (laws_markText.calls _ x2 (markT x2) _ K2.out).mono ?_); rintro e w3 ⟨rfl, hb⟩; refine ⟨_, rfl, ?_⟩; replace HO := ak (Kd.S_below (ks HO) hb); replace HK := ak (Kept.below (S := P0_) kt hb); replace HB := ak (below_step bl hb); clear hb; obtain ⟨oki, c_, hcl, hM, hcc, hfr, hoki, hH⟩ := Kd.S_elem HO.out z81 x5 PZ.out QZ.out; rw [G1.out] at hM; obtain ⟨v2, rfl, hR⟩ := k81_openM hM; have hx_ : w3.cell? ⟨g, x5.toNat * 3 + 1, none⟩ = some (.string s.f1) := hcc 1 _ rfl; have hf_ : w3.frozen? ⟨g, x5.toNat * 3 + 1, none⟩ = false := hfr 1; have HS := Kd.S_seg (okg := fun _ => False) (Kd.H_mono hH (fun k hk => ⟨hk, fun h => h⟩)) PZ.out QZ.out (seg := [.string (markT x2)]) (j := 1) (show 1 + 1 ≤ 3 from by decide) (x' := (⟨markT x1, markT x2, s.f2⟩ : S81)) (k81_mkM _ _ _ (⟨markT x1, markT x2, s.f2⟩ : S81) hR) (fun k hk => .inl hk) (fun k hk => hk.elim); clear hcl hcc hfr hM hH hoki hR) | ((with_reducible refine gate_store (t := 9) (p := 25) rfl ?_); refine store_event (t := 9) (p := 25) (v := ?vo_x) (w1 := (w3.setCell ⟨g, x5.toNat * 3 + 1, none⟩ (.string (markT x2)))) ?hg ?ho ?hn ?hr ?_; (case ho => rfl); (case hg => rfl); (case hn => rfl); (case hr => first | (go_simp; done) | (go_simp; rfl)); intro w4 hw; have hg : w3.grownBy w4 (some g) := (by rw [hw]; exact HS.2); have hp_ : Kd.S k81 81 w4 w0.heap.size (fun k_ => (P0_ k_ ∨ w.heap.size ≤ k_)) (.slice (some ⟨g, 0, none⟩) n cap) (markS a pre ++ (⟨markT x1, markT x2, s.f2⟩ : S81) :: suf) := (by rw [hw, ← G2.out]; exact HS.1); clear HS hx_ hf_; replace HK := ak (Kept.of_grown (S := P0_) hg kt (fun k_ e_ => (Kd.S_R HO.out).1 k_ e_)); replace HB := ak (by rw [hw]; exact below_set HB.out GB.out : Below w0.heap.size w0 w4); replace HO := ak hp_; clear hg hw hp_; obtain ⟨oki, c_, hcl, hM, hcc, hoki, hH⟩ := Kd.S_lend HO.out z81 x5 PZ.out QZ.out; rw [G1.out] at hM; obtain ⟨v2, rfl, hR⟩ := k81_openM hM; obtain ⟨A2, c2, ev⟩ := Kd.R_slice hR; subst ev; have hx2 : w4.cell? ⟨g, x5.toNat * 3 + 2, none⟩ = some (.slice A2 s.f2.length c2) := hcc 2 _ rfl; have HR2 := ak hR; have HH2 := ak hH; have HI2 := ak hoki; clear hcl hcc hM hR hH hoki) | ((with_reducible refine gate_dst (N := 34) rfl ?_); refine gl (some 34) Try.func83 #[.slice A2 s.f2.length c2, .int .i64 x3] ?_; (refine (laws_markPointS.calls _ oki _ s.f2 x3 x4 (markP x3 s.f2) w0 _ ?s1 ?s2 K3.out).mono ?_); (case s1 => exact bl); (case s2 => exact HR2.out); rintro e w5 ⟨rfl, hR5, hb5, hk5⟩; refine ⟨_, rfl, ?_⟩; have hS5 := Kd.H_back (Kd.H_kept (Kd.H_widen HH2.out) hk5 (fun k hk hn hs => hn (.inl hs))) (k81_mkM _ _ _ (⟨markT x1, markT x2, markP x3 s.f2⟩ : S81) hR5) (fun k hk => hk.elim .inl (fun h2 => .inr ⟨.inr (Nat.le_trans HK.out.1 h2), h2⟩)); rw [G2.out] at hS5; replace HK := ak (Kept.then_ (S := P0_) kt hk5 (fun k hs => (HI2.out k hs).1)); replace HB := ak hb5; replace HO := ak hS5; clear hS5 hR5 hb5 hk5 HR2 HH2 HI2 hx2))
      go_roundg suf.length
      case measure => have := HM.out; simp only [List.length_cons] at this; omega
      case rel => exact ⟨pre ++ [s], suf, x4, x6, rfl, rfl, ⟨⟨HN.out.2.2, HN.out.1, HN.out.2.1, Nat.le_refl _⟩⟩, ⟨by rw [← HL.out]; exact ks HO⟩, ⟨kt⟩, ⟨bl⟩⟩
end Go.Proofs.Ytplekidnlofioaa.Q
