/- Part 7 of the proof of FnExactKeepPods: contracts of the functions that it reaches, printed and by hand, and what they come to in plain Lean. -/
import Derived.Test.YtplekidnlofioaaAFnExactKeepPods2
import Derived.Test.YtplekidnlofioaaAFnExactKeepPods6
import Derived.Test.YtplekidnlofioaaAFnExactKeepPods3
import Derived.Test.YtplekidnlofioaaAFnExactKeepPods4
namespace Go.Proofs.Ytplekidnlofioaa.Q
open Go.RowKit Go.Proofs.YtplekidnlofioaaW.PrintWords Go.Proofs.YtplekidnlofioaaW.PrintLast Go.Proofs.YtplekidnlofioaaW.PrintMore
attribute [local go_sem] max2_int min2_int max_two min_two max_three min_three max_four min_four   -- for this text's walks alone
set_option linter.unusedVariables false
set_option linter.unusedSimpArgs false

/-! ### spec_KeepPods: function 28 -/
mutual
def spec_KeepPods.j0 : Nat → List ByteArray → List (S81) → Bool → Option ((List (S81)) × Bool)
 | 0, _, _, _ => none
 | k + 1, x1, x6, x20 => if x20 = true then (some (x6, false)) else (spec_KeepPods.l0 k x1 x6 (([] : List (S81))) 0)
def spec_KeepPods.l0 : Nat → List ByteArray → List (S81) → List (S81) → Int → Option ((List (S81)) × Bool)
 | 0, _, _, _, _ => none
 | k + 1, x1, x6, x7, x8 => if x8 < (x6.length : Int) then (spec_KeepPods.l1 k x1 x6 x7 x8 false 0) else (some (x7, true))
def spec_KeepPods.l1 : Nat → List ByteArray → List (S81) → List (S81) → Int → Bool → Int → Option ((List (S81)) × Bool)
 | 0, _, _, _, _, _, _ => none
 | k + 1, x1, x6, x7, x8, x9, x10 => if x10 < (x1.length : Int) then (if x9 = true then (spec_KeepPods.l1 k x1 x6 x7 x8 true (wrap64 (x10 + 1))) else (if 0 ≤ x10 then (if 0 ≤ x8 then (if x8 < (x6.length : Int) then (spec_KeepPods.l1 k x1 x6 x7 x8 ((rdOf ByteArray.empty x1 x10).toList == ((rd_T81 x6 x8).f0).toList) (wrap64 (x10 + 1))) else (none)) else (none)) else (none))) else (if x9 = true then (if 0 ≤ x8 then (if x8 < (x6.length : Int) then (if x7.length < 2513169434916 then (spec_KeepPods.l0 k x1 x6 (x7 ++ [(⟨(rd_T81 x6 x8).f0, (rd_T81 x6 x8).f1, (rd_T81 x6 x8).f2⟩ : S81)]) (wrap64 (x8 + 1))) else (none)) else (none)) else (none)) else (spec_KeepPods.l0 k x1 x6 x7 (wrap64 (x8 + 1))))
end
def spec_KeepPods.f (k : Nat) (l0 : List (S81)) (l1 : List ByteArray) : Option ((List (S81)) × Bool) := (spec_l03Copy.f k l0).bind fun t327 => ((spec_StoreOk.f k l0).bind fun t330 => (if t330 = true then (spec_KeepPods.j0 k l1 t327 (decide ((l1.length : Int) > 300))) else (spec_KeepPods.j0 k l1 t327 true)))
theorem spec_KeepPods.mono_l : ∀ k, (∀ y0 y1 y2, LeO (spec_KeepPods.j0 k y0 y1 y2) (spec_KeepPods.j0 (k + 1) y0 y1 y2)) ∧ (∀ y0 y1 y2 y3, LeO (spec_KeepPods.l0 k y0 y1 y2 y3) (spec_KeepPods.l0 (k + 1) y0 y1 y2 y3)) ∧ (∀ y0 y1 y2 y3 y4 y5, LeO (spec_KeepPods.l1 k y0 y1 y2 y3 y4 y5) (spec_KeepPods.l1 (k + 1) y0 y1 y2 y3 y4 y5))
 | 0 => ⟨fun _ _ _ r h => by simp [spec_KeepPods.j0] at h, fun _ _ _ _ r h => by simp [spec_KeepPods.l0] at h, fun _ _ _ _ _ _ r h => by simp [spec_KeepPods.l1] at h⟩
 | k + 1 => by
  obtain ⟨ih0, ih1, ih2⟩ := spec_KeepPods.mono_l k
  refine ⟨?_, ?_, ?_⟩
  · intro y0 y1 y2
    unfold spec_KeepPods.j0
    repeat' first
    | (with_reducible exact ih0 _ _ _)
    | (with_reducible exact ih1 _ _ _ _)
    | (with_reducible exact ih2 _ _ _ _ _ _)
    | (with_reducible exact spec_StoreOk.mono _ _)
    | (with_reducible exact spec_l03Copy.mono _ _)
    | (with_reducible exact LeO.refl _)
    | (with_reducible exact LeO.none _)
    | (with_reducible refine LeO.ite ?_ ?_)
    | (with_reducible refine LeO.bind ?_ (fun _ => ?_))
    | exact ih0 _ _ _
    | exact ih1 _ _ _ _
    | exact ih2 _ _ _ _ _ _
    | exact spec_StoreOk.mono _ _
    | exact spec_l03Copy.mono _ _
    | exact LeO.none _
    | refine LeO.ite ?_ ?_
    | refine LeO.bind ?_ (fun _ => ?_)
  · intro y0 y1 y2 y3
    unfold spec_KeepPods.l0
    repeat' first
    | (with_reducible exact ih0 _ _ _)
    | (with_reducible exact ih1 _ _ _ _)
    | (with_reducible exact ih2 _ _ _ _ _ _)
    | (with_reducible exact spec_StoreOk.mono _ _)
    | (with_reducible exact spec_l03Copy.mono _ _)
    | (with_reducible exact LeO.refl _)
    | (with_reducible exact LeO.none _)
    | (with_reducible refine LeO.ite ?_ ?_)
    | (with_reducible refine LeO.bind ?_ (fun _ => ?_))
    | exact ih0 _ _ _
    | exact ih1 _ _ _ _
    | exact ih2 _ _ _ _ _ _
    | exact spec_StoreOk.mono _ _
    | exact spec_l03Copy.mono _ _
    | exact LeO.none _
    | refine LeO.ite ?_ ?_
    | refine LeO.bind ?_ (fun _ => ?_)
  · intro y0 y1 y2 y3 y4 y5
    unfold spec_KeepPods.l1
    repeat' first
    | (with_reducible exact ih0 _ _ _)
    | (with_reducible exact ih1 _ _ _ _)
    | (with_reducible exact ih2 _ _ _ _ _ _)
    | (with_reducible exact spec_StoreOk.mono _ _)
    | (with_reducible exact spec_l03Copy.mono _ _)
    | (with_reducible exact LeO.refl _)
    | (with_reducible exact LeO.none _)
    | (with_reducible refine LeO.ite ?_ ?_)
    | (with_reducible refine LeO.bind ?_ (fun _ => ?_))
    | exact ih0 _ _ _
    | exact ih1 _ _ _ _
    | exact ih2 _ _ _ _ _ _
    | exact spec_StoreOk.mono _ _
    | exact spec_l03Copy.mono _ _
    | exact LeO.none _
    | refine LeO.ite ?_ ?_
    | refine LeO.bind ?_ (fun _ => ?_)
theorem spec_KeepPods.mono : ∀ a0 a1 k, LeO (spec_KeepPods.f k a0 a1) (spec_KeepPods.f (k + 1) a0 a1) := by
 intro a0 a1 k
 obtain ⟨ih0, ih1, ih2⟩ := spec_KeepPods.mono_l k
 unfold spec_KeepPods.f
 repeat' first
  | (with_reducible exact ih0 _ _ _)
  | (with_reducible exact ih1 _ _ _ _)
  | (with_reducible exact ih2 _ _ _ _ _ _)
  | (with_reducible exact spec_StoreOk.mono _ _)
  | (with_reducible exact spec_l03Copy.mono _ _)
  | (with_reducible exact LeO.refl _)
  | (with_reducible exact LeO.none _)
  | (with_reducible refine LeO.ite ?_ ?_)
  | (with_reducible refine LeO.bind ?_ (fun _ => ?_))
  | exact ih0 _ _ _
  | exact ih1 _ _ _ _
  | exact ih2 _ _ _ _ _ _
  | exact spec_StoreOk.mono _ _
  | exact spec_l03Copy.mono _ _
  | exact LeO.none _
  | refine LeO.ite ?_ ?_
  | refine LeO.bind ?_ (fun _ => ?_)
set_option maxHeartbeats 8000000 in
set_option maxRecDepth 100000 in
theorem spec_KeepPods.calls (k : Nat) (A0 : Option Addr) (c0 : Nat) (l0 : List (S81)) (A1 : Option Addr) (c1 : Nat) (l1 : List ByteArray) (r1 : List (S81)) (r2 : Bool) (w : World) (hr0 : Kd.C k81 w A0 l0.length l0) (hc0 : l0.length ≤ c0) (hr1 : Kd.C Kd.string w A1 l1.length l1) (hc1 : l1.length ≤ c1) (h : spec_KeepPods.f k l0 l1 = some (r1, r2)) :
 Calls Try.prog 28 #[.slice A0 l0.length c0, .slice A1 l1.length c1] w fun e w' => ∃ v0_ : Value, e = .returned (.tuple #[v0_, .bool r2]) ∧ Kd.N k81 81 w' w.heap.size (fun k_ => (w.heap.size ≤ k_)) v0_ r1 ∧ Below w.heap.size w w' := by
 have hu81 := Try.underlying81
 have HR0 := Aside0.mk hr0
 have HC0 := Aside0.mk hc0
 clear hr0 hc0
 have HR1 := Aside0.mk hr1
 have HC1 := Aside0.mk hc1
 clear hr1 hc1
 have HB := Aside0.mk (Below.refl w.heap.size w)
 have H : ((spec_l03Copy.f k l0).bind fun t327 => ((spec_StoreOk.f k l0).bind fun t330 => (if t330 = true then (spec_KeepPods.j0 k l1 t327 (decide ((l1.length : Int) > 300))) else (spec_KeepPods.j0 k l1 t327 true)))) = some (r1, r2) := h
 clear h
 obtain ⟨t327, A30, H⟩ := bo H
 have A3 := Aside0.mk A30
 clear A30
 have HC4 := Aside0.mk H
 clear H
 go_enter Try.func28, Try.ntmps28
 go_upto_region 2 with (first | (go_at_call 79; (with_reducible refine (spec_l03Copy.calls k _ _ l0 t327 _ ?side1 ?side2 A3.out).mono ?_); (case side1 => repeat (first | exact HR0.out | (with_reducible refine Kd.C_alloc ?_ _) | (with_reducible refine Kd.C_drewN ?_ _) | (with_reducible refine Kd.C_drew ?_))); (case side2 => exact HC0.out); rintro e w5 ⟨v328, rfl, ho0, hb⟩; have HO329 := ak (Kd.N_lower (Kd.N_mono (ok' := fun k_ => (w.heap.size ≤ k_)) (Kd.S_N (Kd.S_bound ho0)) (fun k_ hk_ => (Nat.le_trans (below_size bl) hk_.2.1))) (below_size bl)); replace HB := ak (below_step bl hb); (try clear hb); (try clear hb2); (try clear hk); (try clear hi); (try clear ho0)))
 repeat (go_quiet (first | (go_at_call 79; (with_reducible refine (spec_l03Copy.calls k _ _ l0 t327 _ ?side1 ?side2 A3.out).mono ?_); (case side1 => repeat (first | exact HR0.out | (with_reducible refine Kd.C_alloc ?_ _) | (with_reducible refine Kd.C_drewN ?_ _) | (with_reducible refine Kd.C_drew ?_))); (case side2 => exact HC0.out); rintro e w5 ⟨v328, rfl, ho0, hb⟩; have HO329 := ak (Kd.N_lower (Kd.N_mono (ok' := fun k_ => (w.heap.size ≤ k_)) (Kd.S_N (Kd.S_bound ho0)) (fun k_ hk_ => (Nat.le_trans (below_size bl) hk_.2.1))) (below_size bl)); replace HB := ak (below_step bl hb); (try clear hb); (try clear hb2); (try clear hk); (try clear hi); (try clear ho0))); go_upto_region 2 with (first | (go_at_call 79; (with_reducible refine (spec_l03Copy.calls k _ _ l0 t327 _ ?side1 ?side2 A3.out).mono ?_); (case side1 => repeat (first | exact HR0.out | (with_reducible refine Kd.C_alloc ?_ _) | (with_reducible refine Kd.C_drewN ?_ _) | (with_reducible refine Kd.C_drew ?_))); (case side2 => exact HC0.out); rintro e w5 ⟨v328, rfl, ho0, hb⟩; have HO329 := ak (Kd.N_lower (Kd.N_mono (ok' := fun k_ => (w.heap.size ≤ k_)) (Kd.S_N (Kd.S_bound ho0)) (fun k_ hk_ => (Nat.le_trans (below_size bl) hk_.2.1))) (below_size bl)); replace HB := ak (below_step bl hb); (try clear hb); (try clear hb2); (try clear hk); (try clear hi); (try clear ho0))))
 (try simp only [Act.put, List.setIfInBounds_toArray, List.set_cons_zero, List.set_cons_succ])
 go_cut [20] (fun v20 wc => ∃ (kq : Nat) (x20_3 : Bool), v20 = .bool x20_3 ∧ Aside0 (spec_KeepPods.j0 kq l1 t327 x20_3 = some (r1, r2)) ∧ Aside0 (kq ≤ k) ∧ Aside0 (Kd.N k81 81 wc w.heap.size (fun k_ => (w.heap.size ≤ k_)) v328 t327) ∧ Aside0 (Below w.heap.size w wc))
 case first =>
  have H := HC4.out
  clear HC4
  obtain ⟨t330, A60, H⟩ := bo H
  have A6 := Aside0.mk A60
  clear A60
  by_cases c7 : t330 = true
  · subst c7
    replace H := iT H
    have H' := Aside0.mk H
    clear H
    go_wp2_with (first | (go_at_call 16; (with_reducible refine (spec_StoreOk.calls k _ _ l0 true _ ?side1 ?side2 A6.out).mono ?_); (case side1 => exact cb HR0); (case side2 => exact HC0.out); rintro e w8 ⟨rfl, hb⟩; replace HO329 := ak (Kd.N_below (by (with_reducible repeat (first | apply Kd.N_alloc | apply Kd.N_drewN | apply Kd.N_drew)); exact HO329.out) hb); replace HB := ak (below_step bl hb); (try clear hb); (try clear hb2); (try clear hk); (try clear hi)))
    repeat (go_quiet (first | (go_at_call 16; (with_reducible refine (spec_StoreOk.calls k _ _ l0 true _ ?side1 ?side2 A6.out).mono ?_); (case side1 => exact cb HR0); (case side2 => exact HC0.out); rintro e w8 ⟨rfl, hb⟩; replace HO329 := ak (Kd.N_below (by (with_reducible repeat (first | apply Kd.N_alloc | apply Kd.N_drewN | apply Kd.N_drew)); exact HO329.out) hb); replace HB := ak (below_step bl hb); (try clear hb); (try clear hb2); (try clear hk); (try clear hi))); try go_wp2_with (first | (go_at_call 16; (with_reducible refine (spec_StoreOk.calls k _ _ l0 true _ ?side1 ?side2 A6.out).mono ?_); (case side1 => exact cb HR0); (case side2 => exact HC0.out); rintro e w8 ⟨rfl, hb⟩; replace HO329 := ak (Kd.N_below (by (with_reducible repeat (first | apply Kd.N_alloc | apply Kd.N_drewN | apply Kd.N_drew)); exact HO329.out) hb); replace HB := ak (below_step bl hb); (try clear hb); (try clear hb2); (try clear hk); (try clear hi))))
    go_meet
    case rel => exact ⟨_, (decide ((l1.length : Int) > 300)), es, H', ⟨by first | omega | exact Nat.le_refl _⟩, ⟨by (with_reducible repeat (first | apply Kd.N_alloc | apply Kd.N_drewN | apply Kd.N_drew)); exact HO329.out⟩, ⟨bl⟩⟩
  · replace c7 := Bool.eq_false_iff.mpr c7
    subst c7
    replace H := iF H
    have H' := Aside0.mk H
    clear H
    go_wp2_with (first | (go_at_call 16; (with_reducible refine (spec_StoreOk.calls k _ _ l0 false _ ?side1 ?side2 A6.out).mono ?_); (case side1 => exact cb HR0); (case side2 => exact HC0.out); rintro e w9 ⟨rfl, hb⟩; replace HO329 := ak (Kd.N_below (by (with_reducible repeat (first | apply Kd.N_alloc | apply Kd.N_drewN | apply Kd.N_drew)); exact HO329.out) hb); replace HB := ak (below_step bl hb); (try clear hb); (try clear hb2); (try clear hk); (try clear hi)))
    repeat (go_quiet (first | (go_at_call 16; (with_reducible refine (spec_StoreOk.calls k _ _ l0 false _ ?side1 ?side2 A6.out).mono ?_); (case side1 => exact cb HR0); (case side2 => exact HC0.out); rintro e w9 ⟨rfl, hb⟩; replace HO329 := ak (Kd.N_below (by (with_reducible repeat (first | apply Kd.N_alloc | apply Kd.N_drewN | apply Kd.N_drew)); exact HO329.out) hb); replace HB := ak (below_step bl hb); (try clear hb); (try clear hb2); (try clear hk); (try clear hi))); try go_wp2_with (first | (go_at_call 16; (with_reducible refine (spec_StoreOk.calls k _ _ l0 false _ ?side1 ?side2 A6.out).mono ?_); (case side1 => exact cb HR0); (case side2 => exact HC0.out); rintro e w9 ⟨rfl, hb⟩; replace HO329 := ak (Kd.N_below (by (with_reducible repeat (first | apply Kd.N_alloc | apply Kd.N_drewN | apply Kd.N_drew)); exact HO329.out) hb); replace HB := ak (below_step bl hb); (try clear hb); (try clear hb2); (try clear hk); (try clear hi))))
    go_meet
    case rel => exact ⟨_, (true), es, H', ⟨by first | omega | exact Nat.le_refl _⟩, ⟨by (with_reducible repeat (first | apply Kd.N_alloc | apply Kd.N_drewN | apply Kd.N_drew)); exact HO329.out⟩, ⟨bl⟩⟩
 case rest =>
  clear HC4
  try clear c1
  try clear c2
  try clear p2
  try clear c7
  obtain ⟨kq, x20_3, rfl, HA, HJ3, HO_6, HB⟩ := hcut
  cases kq with
  | zero => exact absurd HA.out (by simp [spec_KeepPods.j0])
  | succ kj3 =>
   have H := HA.out
   clear HA
   simp only [spec_KeepPods.j0] at H
   by_cases c10 : x20_3 = true
   · subst c10
     replace H := iT H
     simp only [Option.some.injEq, Prod.mk.injEq] at H
     obtain ⟨rfl, rfl⟩ := H
     go_wp2
     repeat (go_quiet (fail); try go_wp2)
     go_ret2
     exact ⟨_, ew, by (with_reducible repeat (first | apply Kd.N_alloc | apply Kd.N_drewN | apply Kd.N_drew)); exact HO_6.out, bl⟩
   · replace c10 := Bool.eq_false_iff.mpr c10
     subst c10
     replace H := iF H
     obtain ⟨y331, hy331⟩ : ∃ y_ : List (S81), y_ = (([] : List (S81))) := ⟨_, rfl⟩
     replace H : (spec_KeepPods.l0 kj3 l1 t327 y331 0) = some (r1, r2) := by first | (rw [hy331]; with_reducible exact H) | (have H2_ := (Option.bind_some _ _).symm.trans H; rw [hy331]; with_reducible exact H2_) | (have H2_ := (Option.bind_some _ _).symm.trans H; with_reducible exact H2_) | with_reducible exact H | (rw [hy331]; exact H) | exact H
     have Ny331 := Aside0.mk hy331
     clear hy331
     have H' := Aside0.mk H
     clear H
     go_wp2_with (first | ((with_reducible refine gate_dst (N := 22) rfl ?_); (try (refine gate_guard (by rfl) ?_; dsimp only)); refine Kd.N_lit k81 _ 81 ?hg (N' := 22) ?hd (xs := ([] : List (S81))) (inner := []) (ok := (fun k_ => (w.heap.size ≤ k_) ∧ some k_ ≠ (v328 : Value).ownBlock)) (okp := (fun k_ => (w.heap.size ≤ k_) ∧ some k_ ≠ (v328 : Value).ownBlock)) ?hr ?hp (fun _ hk => hk) ((show ∀ k_, wc.heap.size ≤ k_ → (fun k_ => (w.heap.size ≤ k_) ∧ some k_ ≠ (v328 : Value).ownBlock) k_ from fun k_ hk => ⟨(Nat.le_trans (below_size bl) hk), Kd.fresh' (Kd.N_lt (by (with_reducible repeat (first | apply Kd.N_alloc | apply Kd.N_drewN | apply Kd.N_drew)); exact HO_6.out)) k_ hk⟩) _ (Nat.le_refl _)) (Below.refl _ _) (Nat.le_refl _) (by simp) ?_; (case hd => rfl); (case hg => rfl); (case hr => first | (go_simp; done) | (go_simp; rfl)); (case hp => exact (Reps.none _ _)); intro v332 w11 ho12 hb hg_ hnew_; clear hg_ hnew_; (first | rw [← Ny331.out] at ho12 | (simp only [Int.reduceToNat] at ho12; rw [← Ny331.out] at ho12)); replace HO_6 := ak (Kd.N_elder' (by (with_reducible repeat (first | apply Kd.N_alloc | apply Kd.N_drewN | apply Kd.N_drew)); exact HO_6.out) (Kd.N_base ho12) hb); have HO333 := ak (Kd.N_lower ho12 (below_size bl)); replace HB := ak (below_step bl hb); clear hb ho12))
     repeat (go_quiet (first | ((with_reducible refine gate_dst (N := 22) rfl ?_); (try (refine gate_guard (by rfl) ?_; dsimp only)); refine Kd.N_lit k81 _ 81 ?hg (N' := 22) ?hd (xs := ([] : List (S81))) (inner := []) (ok := (fun k_ => (w.heap.size ≤ k_) ∧ some k_ ≠ (v328 : Value).ownBlock)) (okp := (fun k_ => (w.heap.size ≤ k_) ∧ some k_ ≠ (v328 : Value).ownBlock)) ?hr ?hp (fun _ hk => hk) ((show ∀ k_, wc.heap.size ≤ k_ → (fun k_ => (w.heap.size ≤ k_) ∧ some k_ ≠ (v328 : Value).ownBlock) k_ from fun k_ hk => ⟨(Nat.le_trans (below_size bl) hk), Kd.fresh' (Kd.N_lt (by (with_reducible repeat (first | apply Kd.N_alloc | apply Kd.N_drewN | apply Kd.N_drew)); exact HO_6.out)) k_ hk⟩) _ (Nat.le_refl _)) (Below.refl _ _) (Nat.le_refl _) (by simp) ?_; (case hd => rfl); (case hg => rfl); (case hr => first | (go_simp; done) | (go_simp; rfl)); (case hp => exact (Reps.none _ _)); intro v332 w11 ho12 hb hg_ hnew_; clear hg_ hnew_; (first | rw [← Ny331.out] at ho12 | (simp only [Int.reduceToNat] at ho12; rw [← Ny331.out] at ho12)); replace HO_6 := ak (Kd.N_elder' (by (with_reducible repeat (first | apply Kd.N_alloc | apply Kd.N_drewN | apply Kd.N_drew)); exact HO_6.out) (Kd.N_base ho12) hb); have HO333 := ak (Kd.N_lower ho12 (below_size bl)); replace HB := ak (below_step bl hb); clear hb ho12)); try go_wp2_with (first | ((with_reducible refine gate_dst (N := 22) rfl ?_); (try (refine gate_guard (by rfl) ?_; dsimp only)); refine Kd.N_lit k81 _ 81 ?hg (N' := 22) ?hd (xs := ([] : List (S81))) (inner := []) (ok := (fun k_ => (w.heap.size ≤ k_) ∧ some k_ ≠ (v328 : Value).ownBlock)) (okp := (fun k_ => (w.heap.size ≤ k_) ∧ some k_ ≠ (v328 : Value).ownBlock)) ?hr ?hp (fun _ hk => hk) ((show ∀ k_, wc.heap.size ≤ k_ → (fun k_ => (w.heap.size ≤ k_) ∧ some k_ ≠ (v328 : Value).ownBlock) k_ from fun k_ hk => ⟨(Nat.le_trans (below_size bl) hk), Kd.fresh' (Kd.N_lt (by (with_reducible repeat (first | apply Kd.N_alloc | apply Kd.N_drewN | apply Kd.N_drew)); exact HO_6.out)) k_ hk⟩) _ (Nat.le_refl _)) (Below.refl _ _) (Nat.le_refl _) (by simp) ?_; (case hd => rfl); (case hg => rfl); (case hr => first | (go_simp; done) | (go_simp; rfl)); (case hp => exact (Reps.none _ _)); intro v332 w11 ho12 hb hg_ hnew_; clear hg_ hnew_; (first | rw [← Ny331.out] at ho12 | (simp only [Int.reduceToNat] at ho12; rw [← Ny331.out] at ho12)); replace HO_6 := ak (Kd.N_elder' (by (with_reducible repeat (first | apply Kd.N_alloc | apply Kd.N_drewN | apply Kd.N_drew)); exact HO_6.out) (Kd.N_base ho12) hb); have HO333 := ak (Kd.N_lower ho12 (below_size bl)); replace HB := ak (below_step bl hb); clear hb ho12)))
     go_loopg [7, 8] kj3 (fun kq v7 v8 w' => ∃ (x7_2 : List (S81)) (x8_2 : Int), v8 = .int .i64 x8_2 ∧ Aside0 (spec_KeepPods.l0 kq l1 t327 x7_2 x8_2 = some (r1, r2)) ∧ Aside0 (kq ≤ kj3) ∧ Aside0 (Kd.N k81 81 w' w.heap.size (fun k_ => (w.heap.size ≤ k_) ∧ some k_ ≠ (v7 : Value).ownBlock) v328 t327) ∧ Aside0 (Kd.N k81 81 w' w.heap.size (fun k_ => (w.heap.size ≤ k_) ∧ some k_ ≠ (v328 : Value).ownBlock) v7 x7_2) ∧ Aside0 (Below w.heap.size w w'))
     case atStart => exact ⟨(y331), (0), es, H', ⟨Nat.le_refl _⟩, ⟨by (with_reducible repeat (first | apply Kd.N_alloc | apply Kd.N_drewN | apply Kd.N_drew)); exact HO_6.out⟩, ⟨by (with_reducible repeat (first | apply Kd.N_alloc | apply Kd.N_drewN | apply Kd.N_drew)); exact HO333.out⟩, ⟨bl⟩⟩
     case round =>
      clear H'
      try clear c1
      try clear c2
      try clear p2
      try clear c7
      try clear c10
      try clear p2
      obtain ⟨x7_2, x8_2, rfl, HA, HK2, HO_6, HO_7, HB⟩ := hrel
      cases gk with
      | zero => exact absurd HA.out (by simp [spec_KeepPods.l0])
      | succ k2 =>
       have H := HA.out
       clear HA
       simp only [spec_KeepPods.l0] at H
       by_cases c13 : x8_2 < (t327.length : Int)
       · rw [if_pos c13] at H
         have c13b0 : decide (x8_2 < (t327.length : Int)) = true := decide_eq_true c13
         clear c13
         have H' := Aside0.mk H
         clear H
         obtain ⟨Ao14, co14, eo14⟩ := Kd.N_slice HO_6.out
         subst eo14
         go_wp2
         repeat (go_quiet (fail); try go_wp2)
         go_loopg [9, 10] k2 (fun kq v9 v10 w' => ∃ (x9_3 : Bool) (x10_3 : Int), v9 = .bool x9_3 ∧ v10 = .int .i64 x10_3 ∧ Aside0 (spec_KeepPods.l1 kq l1 t327 x7_2 x8_2 x9_3 x10_3 = some (r1, r2)) ∧ Aside0 (kq ≤ k2) ∧ Aside0 (Kd.N k81 81 w' w.heap.size (fun k_ => (w.heap.size ≤ k_) ∧ some k_ ≠ (u7 : Value).ownBlock) (.slice Ao14 t327.length co14) t327) ∧ Aside0 (Kd.N k81 81 w' w.heap.size (fun k_ => (w.heap.size ≤ k_) ∧ some k_ ≠ ((.slice Ao14 t327.length co14) : Value).ownBlock) u7 x7_2) ∧ Aside0 (Below w.heap.size w w'))
         case atStart => exact ⟨(false), (0), es, es, H', ⟨Nat.le_refl _⟩, ⟨by (with_reducible repeat (first | apply Kd.N_alloc | apply Kd.N_drewN | apply Kd.N_drew)); exact HO_6.out⟩, ⟨by (with_reducible repeat (first | apply Kd.N_alloc | apply Kd.N_drewN | apply Kd.N_drew)); exact HO_7.out⟩, ⟨bl⟩⟩
         case round =>
          clear H'
          try clear c1
          try clear c2
          try clear p2
          try clear c7
          try clear c10
          try clear c13
          try clear c13b0
          try clear p2
          obtain ⟨x9_3, x10_3, rfl, rfl, HA, HK3, HO_6, HO_7, HB⟩ := hrel
          cases gk with
          | zero => exact absurd HA.out (by simp [spec_KeepPods.l1])
          | succ k3 =>
           have H := HA.out
           clear HA
           simp only [spec_KeepPods.l1] at H
           by_cases c15 : x10_3 < (l1.length : Int)
           · rw [if_pos c15] at H
             have c15b0 : decide (x10_3 < (l1.length : Int)) = true := decide_eq_true c15
             clear c15
             by_cases c16 : x9_3 = true
             · subst c16
               replace H := iT H
               have H' := Aside0.mk H
               clear H
               go_wp2
               repeat (go_quiet (fail); try go_wp2)
               go_roundg k3
               case measure => have := HJ3.out; have := HK2.out; have := HK3.out; omega
               case rel => exact ⟨(true), (wrap64 (x10_3 + 1)), es, es, H', ⟨by have := HJ3.out; have := HK2.out; have := HK3.out; omega⟩, ⟨by (with_reducible repeat (first | apply Kd.N_alloc | apply Kd.N_drewN | apply Kd.N_drew)); exact HO_6.out⟩, ⟨by (with_reducible repeat (first | apply Kd.N_alloc | apply Kd.N_drewN | apply Kd.N_drew)); exact HO_7.out⟩, ⟨bl⟩⟩
             · replace c16 := Bool.eq_false_iff.mpr c16
               subst c16
               replace H := iF H
               by_cases c17 : 0 ≤ x10_3
               · rw [if_pos c17] at H
                 have c17b0 : decide (0 ≤ x10_3) = true := decide_eq_true c17
                 clear c17
                 by_cases c18 : 0 ≤ x8_2
                 · rw [if_pos c18] at H
                   have c18b0 : decide (0 ≤ x8_2) = true := decide_eq_true c18
                   clear c18
                   by_cases c19 : x8_2 < (t327.length : Int)
                   · rw [if_pos c19] at H
                     have c19b0 : decide (x8_2 < (t327.length : Int)) = true := decide_eq_true c19
                     clear c19
                     have H' := Aside0.mk H
                     clear H
                     have p334 : 0 ≤ (x10_3 : Int) := of_decide_eq_true am
                     have q334 : x10_3 < (l1.length : Int) := of_decide_eq_true am
                     obtain ⟨ad334, e334, hx334_0⟩ := Kd.at_string HR1.out x10_3 p334 q334
                     cases e334
                     replace hx334_0 := cw hx334_0
                     replace p334 := eq_true p334
                     replace q334 := eq_true q334
                     have p335 : 0 ≤ (x8_2 : Int) := of_decide_eq_true am
                     have q335 : x8_2 < (t327.length : Int) := of_decide_eq_true am
                     obtain ⟨ad335, A335_2, c335_2, e335, hx335_0, hx335_1, hx335_2, hl335_2, hi335_2⟩ := at_T81 (Kd.N_reads' HO_6.out).2.2 x8_2 p335 q335
                     cases e335
                     obtain ⟨ce335, hce335, hMe335, hcc335⟩ := Kd.N_get HO_6.out z81 x8_2 p335 (by first | exact q335 | exact of_decide_eq_true am | (have e_ := (Kd.N_reads' HO_6.out).1; omega))
                     obtain ⟨ua335_2, uc335_2, rfl, ul335_2, ge335_2⟩ := k81_openF hMe335
                     have hv335_2 := hcc335 2 _ rfl
                     rw [add_field _ _ 2 (by omega)] at hv335_2
                     replace hv335_2 := Option.some.inj (hv335_2.symm.trans hx335_2)
                     injection hv335_2 with hva_ hvn_ hvc_
                     rw [hva_] at ge335_2
                     rw [hvc_] at ul335_2
                     have HL335_2 := Aside0.mk (show Kd.V k37 37 _ w.heap.size _ _ ((rd_T81 t327 x8_2).f2) from Kd.V_mk ul335_2 ge335_2)
                     clear hva_ hvn_ hvc_ ge335_2 ul335_2
                     clear hcc335 hce335
                     have HR335_2 := Aside0.mk hi335_2
                     have HC335_2 := Aside0.mk hl335_2
                     clear hi335_2 hl335_2
                     replace p335 := eq_true p335
                     replace q335 := eq_true q335
                     go_wp2
                     repeat (go_quiet (fail); try go_wp2)
                     go_roundg k3
                     case measure => have := HJ3.out; have := HK2.out; have := HK3.out; omega
                     case rel => exact ⟨(((rdOf ByteArray.empty l1 x10_3).toList == ((rd_T81 t327 x8_2).f0).toList)), (wrap64 (x10_3 + 1)), es, es, H', ⟨by have := HJ3.out; have := HK2.out; have := HK3.out; omega⟩, ⟨by (with_reducible repeat (first | apply Kd.N_alloc | apply Kd.N_drewN | apply Kd.N_drew)); exact HO_6.out⟩, ⟨by (with_reducible repeat (first | apply Kd.N_alloc | apply Kd.N_drewN | apply Kd.N_drew)); exact HO_7.out⟩, ⟨bl⟩⟩
                   · rw [if_neg c19] at H
                     exact absurd H (by simp)
                 · rw [if_neg c18] at H
                   exact absurd H (by simp)
               · rw [if_neg c17] at H
                 exact absurd H (by simp)
           · rw [if_neg c15] at H
             have c15b0 : decide (x10_3 < (l1.length : Int)) = false := decide_eq_false c15
             clear c15
             by_cases c20 : x9_3 = true
             · subst c20
               replace H := iT H
               by_cases c21 : 0 ≤ x8_2
               · rw [if_pos c21] at H
                 have c21b0 : decide (0 ≤ x8_2) = true := decide_eq_true c21
                 clear c21
                 by_cases c22 : x8_2 < (t327.length : Int)
                 · rw [if_pos c22] at H
                   have c22b0 : decide (x8_2 < (t327.length : Int)) = true := decide_eq_true c22
                   clear c22
                   by_cases c23 : x7_2.length < 2513169434916
                   · rw [if_pos c23] at H
                     have LMc23 := Aside0.mk c23
                     clear c23
                     obtain ⟨y337, hy337⟩ : ∃ y_ : List (S81), y_ = (x7_2 ++ [(⟨(rd_T81 t327 x8_2).f0, (rd_T81 t327 x8_2).f1, (rd_T81 t327 x8_2).f2⟩ : S81)]) := ⟨_, rfl⟩
                     replace H : (spec_KeepPods.l0 k3 l1 t327 y337 (wrap64 (x8_2 + 1))) = some (r1, r2) := by first | (rw [hy337]; with_reducible exact H) | (have H2_ := (Option.bind_some _ _).symm.trans H; rw [hy337]; with_reducible exact H2_) | (have H2_ := (Option.bind_some _ _).symm.trans H; with_reducible exact H2_) | with_reducible exact H | (rw [hy337]; exact H) | exact H
                     have Ny337 := Aside0.mk hy337
                     clear hy337
                     have H' := Aside0.mk H
                     clear H
                     have p336 : 0 ≤ (x8_2 : Int) := of_decide_eq_true am
                     have q336 : x8_2 < (t327.length : Int) := of_decide_eq_true am
                     obtain ⟨ad336, A336_2, c336_2, e336, hx336_0, hx336_1, hx336_2, hl336_2, hi336_2⟩ := at_T81 (Kd.N_reads' HO_6.out).2.2 x8_2 p336 q336
                     cases e336
                     obtain ⟨ce336, hce336, hMe336, hcc336⟩ := Kd.N_get HO_6.out z81 x8_2 p336 (by first | exact q336 | exact of_decide_eq_true am | (have e_ := (Kd.N_reads' HO_6.out).1; omega))
                     obtain ⟨ua336_2, uc336_2, rfl, ul336_2, ge336_2⟩ := k81_openF hMe336
                     have hv336_2 := hcc336 2 _ rfl
                     rw [add_field _ _ 2 (by omega)] at hv336_2
                     replace hv336_2 := Option.some.inj (hv336_2.symm.trans hx336_2)
                     injection hv336_2 with hva_ hvn_ hvc_
                     rw [hva_] at ge336_2
                     rw [hvc_] at ul336_2
                     have HL336_2 := Aside0.mk (show Kd.V k37 37 _ w.heap.size _ _ ((rd_T81 t327 x8_2).f2) from Kd.V_mk ul336_2 ge336_2)
                     clear hva_ hvn_ hvc_ ge336_2 ul336_2
                     clear hcc336 hce336
                     have HR336_2 := Aside0.mk hi336_2
                     have HC336_2 := Aside0.mk hl336_2
                     clear hi336_2 hl336_2
                     replace p336 := eq_true p336
                     replace q336 := eq_true q336
                     go_wp2_with (first | ((with_reducible refine gate_builtin (b := .append) (xs := #[.tmp 49, .tmp 54]) rfl ?_); (try (refine gate_guard (by rfl) ?_; dsimp only)); at_builtin; refine Kd.N_append k81 (w0 := w) w.heap.size rfl (.tmp 49) (.tmp 54) 24 81 (.agg #[(.string ⟨#[]⟩), (.string ⟨#[]⟩), (.slice none 0 0)]) 56 rfl Try.underlying24 info81 rfl (by decide) (by omega) u7 x7_2 (⟨(rd_T81 t327 x8_2).f0, (rd_T81 t327 x8_2).f1, (rd_T81 t327 x8_2).f2⟩ : S81) [.string ((rd_T81 t327 x8_2).f0), .string ((rd_T81 t327 x8_2).f1), .slice A336_2 ((rd_T81 t327 x8_2).f2).length c336_2] (fun k_ => (w.heap.size ≤ k_) ∧ some k_ ≠ (.slice (some ad336) t327.length co14 : Value).ownBlock) (fun k_ => ((fun k_ => (w.heap.size ≤ k_) ∧ some k_ ≠ (.slice (some ad336) t327.length co14 : Value).ownBlock)) k_ ∧ some k_ ≠ (u7 : Value).ownBlock) rfl rfl ?aP (fun _ hk => hk) ?aF ?aO ?aB ?aS ?aL ?_; (case aP => exact (k81_mkF _ _ (⟨(rd_T81 t327 x8_2).f0, (rd_T81 t327 x8_2).f1, (rd_T81 t327 x8_2).f2⟩ : S81) (Kd.V_reads' (Kd.V_mono (ok' := (fun k_ => ((fun k_ => (w.heap.size ≤ k_) ∧ some k_ ≠ (.slice (some ad336) t327.length co14 : Value).ownBlock)) k_ ∧ some k_ ≠ (u7 : Value).ownBlock)) (HL336_2.out) (fun k_ hk => ⟨⟨hk.1.1, hk.2⟩, hk.1.2⟩))).2.1 (Kd.V_F (Kd.V_mono (ok' := (fun k_ => ((fun k_ => (w.heap.size ≤ k_) ∧ some k_ ≠ (.slice (some ad336) t327.length co14 : Value).ownBlock)) k_ ∧ some k_ ≠ (u7 : Value).ownBlock)) (HL336_2.out) (fun k_ hk => ⟨⟨hk.1.1, hk.2⟩, hk.1.2⟩))))); (case aB => exact bl); (case aF => exact (fun k_ hk => ⟨(Nat.le_trans (below_size bl) hk), Kd.fresh' (Kd.N_lt (by (with_reducible repeat (first | apply Kd.N_alloc | apply Kd.N_drewN | apply Kd.N_drew)); exact HO_6.out)) k_ hk⟩)); (case aO => exact (by (with_reducible repeat (first | apply Kd.N_alloc | apply Kd.N_drewN | apply Kd.N_drew)); exact HO_7.out)); (case aS => exact (below_size bl)); (case aL => have := LMc23.out; omega); intro v338 w24 ho hb hg hat; rw [← Ny337.out] at ho; replace HO_6 := ak (Kd.N_afterv (ok := (fun k_ => (w.heap.size ≤ k_))) (by (with_reducible repeat (first | apply Kd.N_alloc | apply Kd.N_drewN | apply Kd.N_drew)); exact HO_6.out) hg hat); replace HL336_2 := ak (Kd.V_afterv (ok := (fun k_ => (w.heap.size ≤ k_) ∧ some k_ ≠ (.slice (some ad336) t327.length co14 : Value).ownBlock)) (by (with_reducible repeat (first | apply Kd.V_alloc | apply Kd.V_drewN | apply Kd.V_drew)); exact Kd.V_mono HL336_2.out (fun _ hk => ⟨⟨hk.1.1, hk.2⟩, hk.1.2⟩)) hg hat); replace HB := ak hb; have HO339 := ak ho; clear HO_7; clear ho hb hg hat))
                     repeat (go_quiet (first | ((with_reducible refine gate_builtin (b := .append) (xs := #[.tmp 49, .tmp 54]) rfl ?_); (try (refine gate_guard (by rfl) ?_; dsimp only)); at_builtin; refine Kd.N_append k81 (w0 := w) w.heap.size rfl (.tmp 49) (.tmp 54) 24 81 (.agg #[(.string ⟨#[]⟩), (.string ⟨#[]⟩), (.slice none 0 0)]) 56 rfl Try.underlying24 info81 rfl (by decide) (by omega) u7 x7_2 (⟨(rd_T81 t327 x8_2).f0, (rd_T81 t327 x8_2).f1, (rd_T81 t327 x8_2).f2⟩ : S81) [.string ((rd_T81 t327 x8_2).f0), .string ((rd_T81 t327 x8_2).f1), .slice A336_2 ((rd_T81 t327 x8_2).f2).length c336_2] (fun k_ => (w.heap.size ≤ k_) ∧ some k_ ≠ (.slice (some ad336) t327.length co14 : Value).ownBlock) (fun k_ => ((fun k_ => (w.heap.size ≤ k_) ∧ some k_ ≠ (.slice (some ad336) t327.length co14 : Value).ownBlock)) k_ ∧ some k_ ≠ (u7 : Value).ownBlock) rfl rfl ?aP (fun _ hk => hk) ?aF ?aO ?aB ?aS ?aL ?_; (case aP => exact (k81_mkF _ _ (⟨(rd_T81 t327 x8_2).f0, (rd_T81 t327 x8_2).f1, (rd_T81 t327 x8_2).f2⟩ : S81) (Kd.V_reads' (Kd.V_mono (ok' := (fun k_ => ((fun k_ => (w.heap.size ≤ k_) ∧ some k_ ≠ (.slice (some ad336) t327.length co14 : Value).ownBlock)) k_ ∧ some k_ ≠ (u7 : Value).ownBlock)) (HL336_2.out) (fun k_ hk => ⟨⟨hk.1.1, hk.2⟩, hk.1.2⟩))).2.1 (Kd.V_F (Kd.V_mono (ok' := (fun k_ => ((fun k_ => (w.heap.size ≤ k_) ∧ some k_ ≠ (.slice (some ad336) t327.length co14 : Value).ownBlock)) k_ ∧ some k_ ≠ (u7 : Value).ownBlock)) (HL336_2.out) (fun k_ hk => ⟨⟨hk.1.1, hk.2⟩, hk.1.2⟩))))); (case aB => exact bl); (case aF => exact (fun k_ hk => ⟨(Nat.le_trans (below_size bl) hk), Kd.fresh' (Kd.N_lt (by (with_reducible repeat (first | apply Kd.N_alloc | apply Kd.N_drewN | apply Kd.N_drew)); exact HO_6.out)) k_ hk⟩)); (case aO => exact (by (with_reducible repeat (first | apply Kd.N_alloc | apply Kd.N_drewN | apply Kd.N_drew)); exact HO_7.out)); (case aS => exact (below_size bl)); (case aL => have := LMc23.out; omega); intro v338 w24 ho hb hg hat; rw [← Ny337.out] at ho; replace HO_6 := ak (Kd.N_afterv (ok := (fun k_ => (w.heap.size ≤ k_))) (by (with_reducible repeat (first | apply Kd.N_alloc | apply Kd.N_drewN | apply Kd.N_drew)); exact HO_6.out) hg hat); replace HL336_2 := ak (Kd.V_afterv (ok := (fun k_ => (w.heap.size ≤ k_) ∧ some k_ ≠ (.slice (some ad336) t327.length co14 : Value).ownBlock)) (by (with_reducible repeat (first | apply Kd.V_alloc | apply Kd.V_drewN | apply Kd.V_drew)); exact Kd.V_mono HL336_2.out (fun _ hk => ⟨⟨hk.1.1, hk.2⟩, hk.1.2⟩)) hg hat); replace HB := ak hb; have HO339 := ak ho; clear HO_7; clear ho hb hg hat)); try go_wp2_with (first | ((with_reducible refine gate_builtin (b := .append) (xs := #[.tmp 49, .tmp 54]) rfl ?_); (try (refine gate_guard (by rfl) ?_; dsimp only)); at_builtin; refine Kd.N_append k81 (w0 := w) w.heap.size rfl (.tmp 49) (.tmp 54) 24 81 (.agg #[(.string ⟨#[]⟩), (.string ⟨#[]⟩), (.slice none 0 0)]) 56 rfl Try.underlying24 info81 rfl (by decide) (by omega) u7 x7_2 (⟨(rd_T81 t327 x8_2).f0, (rd_T81 t327 x8_2).f1, (rd_T81 t327 x8_2).f2⟩ : S81) [.string ((rd_T81 t327 x8_2).f0), .string ((rd_T81 t327 x8_2).f1), .slice A336_2 ((rd_T81 t327 x8_2).f2).length c336_2] (fun k_ => (w.heap.size ≤ k_) ∧ some k_ ≠ (.slice (some ad336) t327.length co14 : Value).ownBlock) (fun k_ => ((fun k_ => (w.heap.size ≤ k_) ∧ some k_ ≠ (.slice (some ad336) t327.length co14 : Value).ownBlock)) k_ ∧ some k_ ≠ (u7 : Value).ownBlock) rfl rfl ?aP (fun _ hk => hk) ?aF ?aO ?aB ?aS ?aL ?_; (case aP => exact (k81_mkF _ _ (⟨(rd_T81 t327 x8_2).f0, (rd_T81 t327 x8_2).f1, (rd_T81 t327 x8_2).f2⟩ : S81) (Kd.V_reads' (Kd.V_mono (ok' := (fun k_ => ((fun k_ => (w.heap.size ≤ k_) ∧ some k_ ≠ (.slice (some ad336) t327.length co14 : Value).ownBlock)) k_ ∧ some k_ ≠ (u7 : Value).ownBlock)) (HL336_2.out) (fun k_ hk => ⟨⟨hk.1.1, hk.2⟩, hk.1.2⟩))).2.1 (Kd.V_F (Kd.V_mono (ok' := (fun k_ => ((fun k_ => (w.heap.size ≤ k_) ∧ some k_ ≠ (.slice (some ad336) t327.length co14 : Value).ownBlock)) k_ ∧ some k_ ≠ (u7 : Value).ownBlock)) (HL336_2.out) (fun k_ hk => ⟨⟨hk.1.1, hk.2⟩, hk.1.2⟩))))); (case aB => exact bl); (case aF => exact (fun k_ hk => ⟨(Nat.le_trans (below_size bl) hk), Kd.fresh' (Kd.N_lt (by (with_reducible repeat (first | apply Kd.N_alloc | apply Kd.N_drewN | apply Kd.N_drew)); exact HO_6.out)) k_ hk⟩)); (case aO => exact (by (with_reducible repeat (first | apply Kd.N_alloc | apply Kd.N_drewN | apply Kd.N_drew)); exact HO_7.out)); (case aS => exact (below_size bl)); (case aL => have := LMc23.out; omega); intro v338 w24 ho hb hg hat; rw [← Ny337.out] at ho; replace HO_6 := ak (Kd.N_afterv (ok := (fun k_ => (w.heap.size ≤ k_))) (by (with_reducible repeat (first | apply Kd.N_alloc | apply Kd.N_drewN | apply Kd.N_drew)); exact HO_6.out) hg hat); replace HL336_2 := ak (Kd.V_afterv (ok := (fun k_ => (w.heap.size ≤ k_) ∧ some k_ ≠ (.slice (some ad336) t327.length co14 : Value).ownBlock)) (by (with_reducible repeat (first | apply Kd.V_alloc | apply Kd.V_drewN | apply Kd.V_drew)); exact Kd.V_mono HL336_2.out (fun _ hk => ⟨⟨hk.1.1, hk.2⟩, hk.1.2⟩)) hg hat); replace HB := ak hb; have HO339 := ak ho; clear HO_7; clear ho hb hg hat)))
                     go_roundg k3
                     case measure => have := HJ3.out; have := HK2.out; have := HK3.out; omega
                     case rel => exact ⟨(y337), (wrap64 (x8_2 + 1)), es, H', ⟨by have := HJ3.out; have := HK2.out; have := HK3.out; omega⟩, ⟨by (with_reducible repeat (first | apply Kd.N_alloc | apply Kd.N_drewN | apply Kd.N_drew)); exact HO_6.out⟩, ⟨by (with_reducible repeat (first | apply Kd.N_alloc | apply Kd.N_drewN | apply Kd.N_drew)); exact HO339.out⟩, ⟨bl⟩⟩
                   · rw [if_neg c23] at H
                     exact absurd H (by simp)
                 · rw [if_neg c22] at H
                   exact absurd H (by simp)
               · rw [if_neg c21] at H
                 exact absurd H (by simp)
             · replace c20 := Bool.eq_false_iff.mpr c20
               subst c20
               replace H := iF H
               have H' := Aside0.mk H
               clear H
               go_wp2
               repeat (go_quiet (fail); try go_wp2)
               go_roundg k3
               case measure => have := HJ3.out; have := HK2.out; have := HK3.out; omega
               case rel => exact ⟨(x7_2), (wrap64 (x8_2 + 1)), es, H', ⟨by have := HJ3.out; have := HK2.out; have := HK3.out; omega⟩, ⟨by (with_reducible repeat (first | apply Kd.N_alloc | apply Kd.N_drewN | apply Kd.N_drew)); exact HO_6.out⟩, ⟨by (with_reducible repeat (first | apply Kd.N_alloc | apply Kd.N_drewN | apply Kd.N_drew)); exact HO_7.out⟩, ⟨bl⟩⟩
       · rw [if_neg c13] at H
         have c13b0 : decide (x8_2 < (t327.length : Int)) = false := decide_eq_false c13
         clear c13
         simp only [Option.some.injEq, Prod.mk.injEq] at H
         obtain ⟨rfl, rfl⟩ := H
         obtain ⟨Ao25, co25, eo25⟩ := Kd.N_slice HO_6.out
         subst eo25
         go_wp2
         repeat (go_quiet (fail); try go_wp2)
         go_ret2
         exact ⟨_, ew, by (with_reducible repeat (first | apply Kd.N_alloc | apply Kd.N_drewN | apply Kd.N_drew)); exact Kd.N_mono HO_7.out (fun _ hk => hk.1), bl⟩

end Go.Proofs.Ytplekidnlofioaa.Q
namespace Go.Proofs.Ytplekidnlofioaa.Q
open Go.RowKit Go.Proofs.YtplekidnlofioaaW.PrintWords Go.Proofs.YtplekidnlofioaaW.PrintLast Go.Proofs.YtplekidnlofioaaW.PrintMore
attribute [local go_sem] max2_int min2_int max_two min_two max_three min_three max_four min_four   -- for this text's walks alone
set_option linter.unusedVariables false
set_option linter.unusedSimpArgs false

/-! ### slices_Index_string_string: function 133 -/
def slices_Index_string_string.l0 : Nat → List ByteArray → ByteArray → Int → Int → Option (Int)
 | 0, _, _, _, _ => none
 | k + 1, x0, x1, x7, x8 => if x8 < x7 then (if 0 ≤ x8 then (if x8 < (x0.length : Int) then (if x1.toList = (rdOf ByteArray.empty x0 x8).toList then (some x8) else (slices_Index_string_string.l0 k x0 x1 x7 (wrap64 (x8 + 1)))) else (none)) else (none)) else (some (-1))
def slices_Index_string_string.f (k : Nat) (l0 : List ByteArray) (a1 : ByteArray) : Option (Int) := slices_Index_string_string.l0 k l0 a1 (l0.length : Int) 0
theorem slices_Index_string_string.mono_l : ∀ k, (∀ y0 y1 y2 y3, LeO (slices_Index_string_string.l0 k y0 y1 y2 y3) (slices_Index_string_string.l0 (k + 1) y0 y1 y2 y3))
 | 0 => fun _ _ _ _ r h => by simp [slices_Index_string_string.l0] at h
 | k + 1 => by
  have ih0 := slices_Index_string_string.mono_l k
  · intro y0 y1 y2 y3
    unfold slices_Index_string_string.l0
    repeat' first
    | (with_reducible exact ih0 _ _ _ _)
    | (with_reducible exact LeO.refl _)
    | (with_reducible exact LeO.none _)
    | (with_reducible refine LeO.ite ?_ ?_)
    | (with_reducible refine LeO.bind ?_ (fun _ => ?_))
    | exact ih0 _ _ _ _
    | exact LeO.none _
    | refine LeO.ite ?_ ?_
    | refine LeO.bind ?_ (fun _ => ?_)
theorem slices_Index_string_string.mono : ∀ a0 a1 k, LeO (slices_Index_string_string.f k a0 a1) (slices_Index_string_string.f (k + 1) a0 a1) := by
 intro a0 a1 k
 have ih0 := slices_Index_string_string.mono_l k
 unfold slices_Index_string_string.f
 repeat' first
  | (with_reducible exact ih0 _ _ _ _)
  | (with_reducible exact LeO.refl _)
  | (with_reducible exact LeO.none _)
  | (with_reducible refine LeO.ite ?_ ?_)
  | (with_reducible refine LeO.bind ?_ (fun _ => ?_))
  | exact ih0 _ _ _ _
  | exact LeO.none _
  | refine LeO.ite ?_ ?_
  | refine LeO.bind ?_ (fun _ => ?_)
set_option maxHeartbeats 8000000 in
set_option maxRecDepth 100000 in
theorem slices_Index_string_string.calls (k : Nat) (A0 : Option Addr) (c0 : Nat) (l0 : List ByteArray) (a1 : ByteArray) (r : Int) (w : World) (hr0 : Kd.C Kd.string w A0 l0.length l0) (hc0 : l0.length ≤ c0) (h : slices_Index_string_string.f k l0 a1 = some r) :
 Calls Try.prog 133 #[.slice A0 l0.length c0, .string a1] w fun e w' => e = .returned (.int .i64 r) ∧ Drawn0 w w' := by
 have HR0 := Aside0.mk hr0
 have HC0 := Aside0.mk hc0
 clear hr0 hc0
 have H : (slices_Index_string_string.l0 k l0 a1 (l0.length : Int) 0) = some r := h
 clear h
 have H' := Aside0.mk H
 clear H
 go_enter Try.func133, Try.ntmps133
 go_wp2
 go_loopg [8] k (fun kq v8 w' => ∃ (x8_1 : Int), v8 = .int .i64 x8_1 ∧ Aside0 (slices_Index_string_string.l0 kq l0 a1 (l0.length : Int) x8_1 = some r) ∧ Aside0 (kq ≤ k) ∧ Drawn0 w w')
 case atStart => exact ⟨(0), es, H', ⟨Nat.le_refl _⟩, dr0⟩
 case round =>
  clear H'
  try clear c1
  try clear p2
  obtain ⟨x8_1, rfl, HA, HK1, ⟨m1, rfl⟩⟩ := hrel
  cases gk with
  | zero => exact absurd HA.out (by simp [slices_Index_string_string.l0])
  | succ k1 =>
   have H := HA.out
   clear HA
   simp only [slices_Index_string_string.l0] at H
   by_cases c3 : x8_1 < (l0.length : Int)
   · rw [if_pos c3] at H
     have c3b0 : decide (x8_1 < (l0.length : Int)) = true := decide_eq_true c3
     clear c3
     by_cases c4 : 0 ≤ x8_1
     · rw [if_pos c4] at H
       have c4b0 : decide (0 ≤ x8_1) = true := decide_eq_true c4
       clear c4
       by_cases c5 : x8_1 < (l0.length : Int)
       · rw [if_pos c5] at H
         have c5b0 : decide (x8_1 < (l0.length : Int)) = true := decide_eq_true c5
         clear c5
         by_cases c6 : a1.toList = (rdOf ByteArray.empty l0 x8_1).toList
         · rw [if_pos c6] at H
           have c6b0 : (a1.toList == (rdOf ByteArray.empty l0 x8_1).toList) = true := beq_iff_eq.mpr c6
           have c6b1 : (a1.toList != (rdOf ByteArray.empty l0 x8_1).toList) = false := bne_eq_false_iff_eq.mpr c6
           clear c6
           obtain rfl := Option.some.inj H
           have p1310 : 0 ≤ (x8_1 : Int) := of_decide_eq_true am
           have q1310 : x8_1 < (l0.length : Int) := of_decide_eq_true am
           obtain ⟨ad1310, e1310, hx1310_0⟩ := Kd.at_string HR0.out x8_1 p1310 q1310
           cases e1310
           replace p1310 := eq_true p1310
           replace q1310 := eq_true q1310
           go_wp2
           go_ret
           exact ⟨es, dr0⟩
         · rw [if_neg c6] at H
           have c6b0 : (a1.toList == (rdOf ByteArray.empty l0 x8_1).toList) = false := beq_eq_false_iff_ne.mpr c6
           have c6b1 : (a1.toList != (rdOf ByteArray.empty l0 x8_1).toList) = true := bne_iff_ne.mpr c6
           have H' := Aside0.mk H
           clear H
           have p1310 : 0 ≤ (x8_1 : Int) := of_decide_eq_true am
           have q1310 : x8_1 < (l0.length : Int) := of_decide_eq_true am
           obtain ⟨ad1310, e1310, hx1310_0⟩ := Kd.at_string HR0.out x8_1 p1310 q1310
           cases e1310
           replace p1310 := eq_true p1310
           replace q1310 := eq_true q1310
           go_wp2
           go_roundg k1
           case measure => have := HK1.out; omega
           case rel => exact ⟨(wrap64 (x8_1 + 1)), es, H', ⟨kp⟩, dr0⟩
       · rw [if_neg c5] at H
         exact absurd H (by simp)
     · rw [if_neg c4] at H
       exact absurd H (by simp)
   · rw [if_neg c3] at H
     have c3b0 : decide (x8_1 < (l0.length : Int)) = false := decide_eq_false c3
     clear c3
     obtain rfl := Option.some.inj H
     go_wp2
     go_ret
     exact ⟨es, dr0⟩

end Go.Proofs.Ytplekidnlofioaa.Q
namespace Go.Proofs.Ytplekidnlofioaa.Q
open Go.RowKit Go.Proofs.YtplekidnlofioaaW.PrintWords Go.Proofs.YtplekidnlofioaaW.PrintLast Go.Proofs.YtplekidnlofioaaW.PrintMore
attribute [local go_sem] max2_int min2_int max_two min_two max_three min_three max_four min_four   -- for this text's walks alone
set_option linter.unusedVariables false
set_option linter.unusedSimpArgs false

/-! ### slices_Contains_string_string: function 77 -/
def slices_Contains_string_string.f (k : Nat) (l0 : List ByteArray) (a1 : ByteArray) : Option (Bool) := (slices_Index_string_string.f k l0 a1).bind fun t1311 => (some (decide (t1311 ≥ 0)))
theorem slices_Contains_string_string.mono : ∀ a0 a1 k, LeO (slices_Contains_string_string.f k a0 a1) (slices_Contains_string_string.f (k + 1) a0 a1) := by
 intro a0 a1 k
 unfold slices_Contains_string_string.f
 repeat' first
  | (with_reducible exact slices_Index_string_string.mono _ _ _)
  | (with_reducible exact LeO.refl _)
  | (with_reducible exact LeO.none _)
  | (with_reducible refine LeO.ite ?_ ?_)
  | (with_reducible refine LeO.bind ?_ (fun _ => ?_))
  | exact slices_Index_string_string.mono _ _ _
  | exact LeO.none _
  | refine LeO.ite ?_ ?_
  | refine LeO.bind ?_ (fun _ => ?_)
set_option maxHeartbeats 8000000 in
set_option maxRecDepth 100000 in
theorem slices_Contains_string_string.calls (k : Nat) (A0 : Option Addr) (c0 : Nat) (l0 : List ByteArray) (a1 : ByteArray) (r : Bool) (w : World) (hr0 : Kd.C Kd.string w A0 l0.length l0) (hc0 : l0.length ≤ c0) (h : slices_Contains_string_string.f k l0 a1 = some r) :
 Calls Try.prog 77 #[.slice A0 l0.length c0, .string a1] w fun e w' => e = .returned (.bool r) ∧ Drawn0 w w' := by
 have HR0 := Aside0.mk hr0
 have HC0 := Aside0.mk hc0
 clear hr0 hc0
 have H : ((slices_Index_string_string.f k l0 a1).bind fun t1311 => (some (decide (t1311 ≥ 0)))) = some r := h
 clear h
 obtain ⟨t1311, A30, H⟩ := bo H
 have A3 := Aside0.mk A30
 clear A30
 obtain rfl := Option.some.inj H
 go_enter Try.func77, Try.ntmps77
 go_wp2_with (first | ((with_reducible refine gate_callee (f := 133) rfl ?_); refine gl (some 7) Try.func133 #[.slice A0 l0.length c0, .string a1] ?_; (with_reducible refine (slices_Index_string_string.calls k _ _ l0 a1 t1311 _ ?side1 ?side2 A3.out).mono ?_); (case side1 => repeat (first | exact HR0.out | (with_reducible refine Kd.C_alloc ?_ _) | (with_reducible refine Kd.C_drewN ?_ _) | (with_reducible refine Kd.C_drew ?_))); (case side2 => exact HC0.out); rintro e w' ⟨rfl, ⟨nd, rfl⟩⟩; refine ⟨_, rfl, ?_⟩))
 go_ret
 exact ⟨es, dr0⟩

end Go.Proofs.Ytplekidnlofioaa.Q
namespace Go.Proofs.Ytplekidnlofioaa.Q
open Go.RowKit Go.Proofs.YtplekidnlofioaaW.PrintWords Go.Proofs.YtplekidnlofioaaW.PrintLast Go.Proofs.YtplekidnlofioaaW.PrintMore
attribute [local go_sem] max2_int min2_int max_two min_two max_three min_three max_four min_four   -- for this text's walks alone
set_option linter.unusedVariables false
set_option linter.unusedSimpArgs false

/-! ### laws_szStringS: function 27 -/
def laws_szStringS.l0 : Nat → List ByteArray → Int → Int → Option (Int)
 | 0, _, _, _ => none
 | k + 1, x0, x1, x5 => if x5 < (x0.length : Int) then (if 0 ≤ x5 then (if (wrap64 (x1 - ((rdOf ByteArray.empty x0 x5).size : Int))) < 0 then (some (-1)) else (laws_szStringS.l0 k x0 (wrap64 (x1 - ((rdOf ByteArray.empty x0 x5).size : Int))) (wrap64 (x5 + 1)))) else (none)) else (some x1)
def laws_szStringS.f (k : Nat) (l0 : List ByteArray) (a1 : Int) : Option (Int) := if (wrap64 (a1 - (l0.length : Int))) < 0 then (some (-1)) else (laws_szStringS.l0 k l0 (wrap64 (a1 - (l0.length : Int))) 0)
theorem laws_szStringS.mono_l : ∀ k, (∀ y0 y1 y2, LeO (laws_szStringS.l0 k y0 y1 y2) (laws_szStringS.l0 (k + 1) y0 y1 y2))
 | 0 => fun _ _ _ r h => by simp [laws_szStringS.l0] at h
 | k + 1 => by
  have ih0 := laws_szStringS.mono_l k
  · intro y0 y1 y2
    unfold laws_szStringS.l0
    repeat' first
    | (with_reducible exact ih0 _ _ _)
    | (with_reducible exact LeO.refl _)
    | (with_reducible exact LeO.none _)
    | (with_reducible refine LeO.ite ?_ ?_)
    | (with_reducible refine LeO.bind ?_ (fun _ => ?_))
    | exact ih0 _ _ _
    | exact LeO.none _
    | refine LeO.ite ?_ ?_
    | refine LeO.bind ?_ (fun _ => ?_)
theorem laws_szStringS.mono : ∀ a0 a1 k, LeO (laws_szStringS.f k a0 a1) (laws_szStringS.f (k + 1) a0 a1) := by
 intro a0 a1 k
 have ih0 := laws_szStringS.mono_l k
 unfold laws_szStringS.f
 repeat' first
  | (with_reducible exact ih0 _ _ _)
  | (with_reducible exact LeO.refl _)
  | (with_reducible exact LeO.none _)
  | (with_reducible refine LeO.ite ?_ ?_)
  | (with_reducible refine LeO.bind ?_ (fun _ => ?_))
  | exact ih0 _ _ _
  | exact LeO.none _
  | refine LeO.ite ?_ ?_
  | refine LeO.bind ?_ (fun _ => ?_)
set_option maxHeartbeats 8000000 in
set_option maxRecDepth 100000 in
theorem laws_szStringS.calls (k : Nat) (A0 : Option Addr) (c0 : Nat) (l0 : List ByteArray) (a1 : Int) (r : Int) (w : World) (hr0 : Kd.C Kd.string w A0 l0.length l0) (hc0 : l0.length ≤ c0) (h : laws_szStringS.f k l0 a1 = some r) :
 Calls Try.prog 27 #[.slice A0 l0.length c0, .int .i64 a1] w fun e w' => e = .returned (.int .i64 r) ∧ Drawn0 w w' := by
 have HR0 := Aside0.mk hr0
 have HC0 := Aside0.mk hc0
 clear hr0 hc0
 have H : (if (wrap64 (a1 - (l0.length : Int))) < 0 then (some (-1)) else (laws_szStringS.l0 k l0 (wrap64 (a1 - (l0.length : Int))) 0)) = some r := h
 clear h
 by_cases c3 : (wrap64 (a1 - (l0.length : Int))) < 0
 · rw [if_pos c3] at H
   have c3b0 : decide ((wrap64 (a1 - (l0.length : Int))) < 0) = true := decide_eq_true c3
   clear c3
   obtain rfl := Option.some.inj H
   go_enter Try.func27, Try.ntmps27
   go_wp2
   go_ret
   exact ⟨es, dr0⟩
 · rw [if_neg c3] at H
   have c3b0 : decide ((wrap64 (a1 - (l0.length : Int))) < 0) = false := decide_eq_false c3
   clear c3
   have H' := Aside0.mk H
   clear H
   go_enter Try.func27, Try.ntmps27
   go_wp2
   go_loopg [1, 5] k (fun kq v1 v5 w' => ∃ (x1_1 : Int) (x5_1 : Int), v1 = .int .i64 x1_1 ∧ v5 = .int .i64 x5_1 ∧ Aside0 (laws_szStringS.l0 kq l0 x1_1 x5_1 = some r) ∧ Aside0 (kq ≤ k) ∧ Drawn0 w w')
   case atStart => exact ⟨(wrap64 (a1 - (l0.length : Int))), (0), es, es, H', ⟨Nat.le_refl _⟩, dr0⟩
   case round =>
    clear H'
    try clear c2
    try clear p2
    try clear c3
    try clear c3b0
    obtain ⟨x1_1, x5_1, rfl, rfl, HA, HK1, ⟨m1, rfl⟩⟩ := hrel
    cases gk with
    | zero => exact absurd HA.out (by simp [laws_szStringS.l0])
    | succ k1 =>
     have H := HA.out
     clear HA
     simp only [laws_szStringS.l0] at H
     by_cases c4 : x5_1 < (l0.length : Int)
     · rw [if_pos c4] at H
       have c4b0 : decide (x5_1 < (l0.length : Int)) = true := decide_eq_true c4
       clear c4
       by_cases c5 : 0 ≤ x5_1
       · rw [if_pos c5] at H
         have c5b0 : decide (0 ≤ x5_1) = true := decide_eq_true c5
         clear c5
         by_cases c6 : (wrap64 (x1_1 - ((rdOf ByteArray.empty l0 x5_1).size : Int))) < 0
         · rw [if_pos c6] at H
           have c6b0 : decide ((wrap64 (x1_1 - ((rdOf ByteArray.empty l0 x5_1).size : Int))) < 0) = true := decide_eq_true c6
           clear c6
           obtain rfl := Option.some.inj H
           have p326 : 0 ≤ (x5_1 : Int) := of_decide_eq_true am
           have q326 : x5_1 < (l0.length : Int) := of_decide_eq_true am
           obtain ⟨ad326, e326, hx326_0⟩ := Kd.at_string HR0.out x5_1 p326 q326
           cases e326
           replace p326 := eq_true p326
           replace q326 := eq_true q326
           go_wp2
           go_ret
           exact ⟨es, dr0⟩
         · rw [if_neg c6] at H
           have c6b0 : decide ((wrap64 (x1_1 - ((rdOf ByteArray.empty l0 x5_1).size : Int))) < 0) = false := decide_eq_false c6
           clear c6
           have H' := Aside0.mk H
           clear H
           have p326 : 0 ≤ (x5_1 : Int) := of_decide_eq_true am
           have q326 : x5_1 < (l0.length : Int) := of_decide_eq_true am
           obtain ⟨ad326, e326, hx326_0⟩ := Kd.at_string HR0.out x5_1 p326 q326
           cases e326
           replace p326 := eq_true p326
           replace q326 := eq_true q326
           go_wp2
           go_roundg k1
           case measure => have := HK1.out; omega
           case rel => exact ⟨(wrap64 (x1_1 - ((rdOf ByteArray.empty l0 x5_1).size : Int))), (wrap64 (x5_1 + 1)), es, es, H', ⟨kp⟩, dr0⟩
       · rw [if_neg c5] at H
         exact absurd H (by simp)
     · rw [if_neg c4] at H
       have c4b0 : decide (x5_1 < (l0.length : Int)) = false := decide_eq_false c4
       clear c4
       obtain rfl := Option.some.inj H
       go_wp2
       go_ret
       exact ⟨es, dr0⟩

end Go.Proofs.Ytplekidnlofioaa.Q
namespace Go.Proofs.Ytplekidnlofioaa.Q
open Go.RowKit Go.Proofs.YtplekidnlofioaaW.PrintWords Go.Proofs.YtplekidnlofioaaW.PrintLast Go.Proofs.YtplekidnlofioaaW.PrintMore
attribute [local go_sem] max2_int min2_int max_two min_two max_three min_three max_four min_four   -- for this text's walks alone
set_option linter.unusedVariables false
set_option linter.unusedSimpArgs false

/-! ### laws_toStringS: function 29 -/
def laws_toStringS.l0 : Nat → List ByteArray → List ByteArray → Int → Option (List ByteArray)
 | 0, _, _, _ => none
 | k + 1, x0, x3, x4 => if x4 < (x0.length : Int) then (if 0 ≤ x4 then (if x4 < (x3.length : Int) then (laws_toStringS.l0 k x0 (x3.set (x4 : Int).toNat (rdOf ByteArray.empty x0 x4)) (wrap64 (x4 + 1))) else (none)) else (none)) else (some x3)
def laws_toStringS.f (k : Nat) (l0 : List ByteArray) : Option (List ByteArray) := if 0 ≤ (l0.length : Int) then (if ((l0.length : Int) : Int).toNat ≤ 17592186044416 then (laws_toStringS.l0 k l0 (List.replicate ((l0.length : Int) : Int).toNat (⟨#[]⟩ : ByteArray)) 0) else (none)) else (none)
theorem laws_toStringS.mono_l : ∀ k, (∀ y0 y1 y2, LeO (laws_toStringS.l0 k y0 y1 y2) (laws_toStringS.l0 (k + 1) y0 y1 y2))
 | 0 => fun _ _ _ r h => by simp [laws_toStringS.l0] at h
 | k + 1 => by
  have ih0 := laws_toStringS.mono_l k
  · intro y0 y1 y2
    unfold laws_toStringS.l0
    repeat' first
    | (with_reducible exact ih0 _ _ _)
    | (with_reducible exact LeO.refl _)
    | (with_reducible exact LeO.none _)
    | (with_reducible refine LeO.ite ?_ ?_)
    | (with_reducible refine LeO.bind ?_ (fun _ => ?_))
    | exact ih0 _ _ _
    | exact LeO.none _
    | refine LeO.ite ?_ ?_
    | refine LeO.bind ?_ (fun _ => ?_)
theorem laws_toStringS.mono : ∀ a0 k, LeO (laws_toStringS.f k a0) (laws_toStringS.f (k + 1) a0) := by
 intro a0 k
 have ih0 := laws_toStringS.mono_l k
 unfold laws_toStringS.f
 repeat' first
  | (with_reducible exact ih0 _ _ _)
  | (with_reducible exact LeO.refl _)
  | (with_reducible exact LeO.none _)
  | (with_reducible refine LeO.ite ?_ ?_)
  | (with_reducible refine LeO.bind ?_ (fun _ => ?_))
  | exact ih0 _ _ _
  | exact LeO.none _
  | refine LeO.ite ?_ ?_
  | refine LeO.bind ?_ (fun _ => ?_)
set_option maxHeartbeats 8000000 in
set_option maxRecDepth 100000 in
theorem laws_toStringS.calls (k : Nat) (A0 : Option Addr) (c0 : Nat) (l0 : List ByteArray) (r : List ByteArray) (w : World) (hr0 : Kd.C Kd.string w A0 l0.length l0) (hc0 : l0.length ≤ c0) (h : laws_toStringS.f k l0 = some r) :
 Calls Try.prog 29 #[.slice A0 l0.length c0] w fun e w' => ∃ v0_ : Value, e = .returned (v0_) ∧ Kd.R Kd.string 9 w' w.heap.size (fun _ => True) v0_ r ∧ Below w.heap.size w w' := by
 have HR0 := Aside0.mk hr0
 have HC0 := Aside0.mk hc0
 clear hr0 hc0
 have HB := Aside0.mk (Below.refl w.heap.size w)
 have H : (if 0 ≤ (l0.length : Int) then (if ((l0.length : Int) : Int).toNat ≤ 17592186044416 then (laws_toStringS.l0 k l0 (List.replicate ((l0.length : Int) : Int).toNat (⟨#[]⟩ : ByteArray)) 0) else (none)) else (none)) = some r := h
 clear h
 by_cases c2 : 0 ≤ (l0.length : Int)
 · rw [if_pos c2] at H
   have c2b0 := eq_true c2
   have c2b1 : decide (0 ≤ (l0.length : Int)) = true := decide_eq_true c2
   clear c2
   by_cases c3 : ((l0.length : Int) : Int).toNat ≤ 17592186044416
   · rw [if_pos c3] at H
     have c3b0 := eq_true c3
     have c3b1 : decide (((l0.length : Int) : Int).toNat ≤ 17592186044416) = true := decide_eq_true c3
     clear c3
     obtain ⟨y340, hy340⟩ : ∃ y_ : List ByteArray, y_ = (List.replicate ((l0.length : Int) : Int).toNat (⟨#[]⟩ : ByteArray)) := ⟨_, rfl⟩
     replace H : (laws_toStringS.l0 k l0 y340 0) = some r := by first | (rw [hy340]; with_reducible exact H) | (have H2_ := (Option.bind_some _ _).symm.trans H; rw [hy340]; with_reducible exact H2_) | (have H2_ := (Option.bind_some _ _).symm.trans H; with_reducible exact H2_) | with_reducible exact H | (rw [hy340]; exact H) | exact H
     have Ny340 := Aside0.mk hy340
     clear hy340
     have H' := Aside0.mk H
     clear H
     go_enter Try.func29, Try.ntmps29
     go_wp2_with (first | ((with_reducible refine gate_dst (N := 7) rfl ?_); refine Kd.R_make Kd.string _ 9 rfl (N := 7) rfl 49 _ _ rfl (l0.length : Int) rfl rfl Try.underlying49 (.string ⟨#[]⟩) 16 info9 rfl (by decide) (by omega) (⟨#[]⟩ : ByteArray) (ok := fun _ => True) (okp := fun _ => True) rfl (fun _ hk => hk) trivial (of_decide_eq_true am) (Nat.le_trans (Nat.mul_le_mul_right _ (of_decide_eq_true am : (l0.length : Int).toNat ≤ 17592186044416)) (by omega)) (Below.refl _ _) (Nat.le_refl _) ?_; intro v341 w4 ho5 hb hg_ hnew_; clear hg_ hnew_; (first | rw [← Ny340.out] at ho5 | (simp only [Int.reduceToNat] at ho5; rw [← Ny340.out] at ho5)); have HO342 := ak (Kd.R_lower ho5 (below_size bl)); replace HB := ak (below_step bl hb); clear hb ho5))
     go_loopg [4] k (fun kq v4 w' => ∃ (x3_1 : List ByteArray) (x4_1 : Int), v4 = .int .i64 x4_1 ∧ Aside0 (laws_toStringS.l0 kq l0 x3_1 x4_1 = some r) ∧ Aside0 (kq ≤ k) ∧ Aside0 (Kd.R Kd.string 9 w' w.heap.size (fun _ => True) v341 x3_1) ∧ Aside0 (Below w.heap.size w w'))
     case atStart => exact ⟨(y340), (0), es, H', ⟨Nat.le_refl _⟩, ⟨kr HO342⟩, ⟨bl⟩⟩
     case round =>
      clear H'
      try clear c2
      try clear c2b0
      try clear c2b1
      try clear p2
      try clear c3
      try clear c3b0
      try clear c3b1
      obtain ⟨x3_1, x4_1, rfl, HA, HK1, HO_3, HB⟩ := hrel
      cases gk with
      | zero => exact absurd HA.out (by simp [laws_toStringS.l0])
      | succ k1 =>
       have H := HA.out
       clear HA
       simp only [laws_toStringS.l0] at H
       by_cases c6 : x4_1 < (l0.length : Int)
       · rw [if_pos c6] at H
         have c6b0 : decide (x4_1 < (l0.length : Int)) = true := decide_eq_true c6
         clear c6
         by_cases c7 : 0 ≤ x4_1
         · rw [if_pos c7] at H
           have c7b0 : decide (0 ≤ x4_1) = true := decide_eq_true c7
           clear c7
           by_cases c8 : x4_1 < (x3_1.length : Int)
           · rw [if_pos c8] at H
             have c8b0 : decide (x4_1 < (x3_1.length : Int)) = true := decide_eq_true c8
             clear c8
             obtain ⟨y344, hy344⟩ : ∃ y_ : List ByteArray, y_ = (x3_1.set (x4_1 : Int).toNat (rdOf ByteArray.empty l0 x4_1)) := ⟨_, rfl⟩
             replace H : (laws_toStringS.l0 k1 l0 y344 (wrap64 (x4_1 + 1))) = some r := by first | (rw [hy344]; with_reducible exact H) | (have H2_ := (Option.bind_some _ _).symm.trans H; rw [hy344]; with_reducible exact H2_) | (have H2_ := (Option.bind_some _ _).symm.trans H; with_reducible exact H2_) | with_reducible exact H | (rw [hy344]; exact H) | exact H
             have Ny344 := Aside0.mk hy344
             clear hy344
             have H' := Aside0.mk H
             clear H
             have p343 : 0 ≤ (x4_1 : Int) := of_decide_eq_true am
             have q343 : x4_1 < (l0.length : Int) := of_decide_eq_true am
             obtain ⟨ad343, e343, hx343_0⟩ := Kd.at_string HR0.out x4_1 p343 q343
             cases e343
             replace hx343_0 := cw hx343_0
             replace p343 := eq_true p343
             replace q343 := eq_true q343
             have p9 : 0 ≤ (x4_1 : Int) := of_decide_eq_true am
             have q9 : (x4_1 : Int) < ((x3_1.length : Int) : Int) := of_decide_eq_true am
             obtain ⟨go9, co9, eo9, gb9, gl9, cl9, HG9⟩ := Kd.R_form HO_3.out (by omega)
             (first | cases eo9 | (injection eo9 with ea_ en_ ec_; (first | subst ea_ | (injection ea_ with ea_; subst ea_)); subst ec_; clear en_))
             have GB9 := Aside0.mk gb9
             have GG9 := Aside0.mk HG9
             clear gb9 gl9 HG9
             obtain ⟨hx9_0, hf9_0⟩ := Kd.R_celln (⟨#[]⟩ : ByteArray) HO_3.out (x4_1 : Int) p9 q9
             replace p9 := eq_true p9
             replace q9 := eq_true q9
             have HP10 := Kd.R_putg HO_3.out (x4_1 : Int) (rdOf ByteArray.empty l0 x4_1)
             go_wp2_with (first | ((with_reducible refine gate_store (t := 9) (p := 20) rfl ?_); refine store_event (t := 9) (p := 20) (v := ?vo_w11) (w1 := (wr.setCell ⟨go9, (x4_1 : Int).toNat, none⟩ (.string (rdOf ByteArray.empty l0 x4_1)))) ?hg ?ho ?hn ?hr ?_; (case ho => rfl); (case hg => rfl); (case hn => rfl); (case hr => first | (go_simp; done) | (go_simp; rfl)); intro w11 hw; have hg : wr.grownBy w11 (some go9) := (by rw [hw]; exact HP10.2); have hp_ : Kd.R Kd.string 9 w11 w.heap.size (fun _ => True) (.slice (some ⟨go9, 0, none⟩) x3_1.length co9) y344 := (by rw [hw, Ny344.out]; exact HP10.1); clear HP10; replace HO_3 := ak hp_; replace HB := ak (by rw [hw]; exact below_set (HB.out) GB9.out : Below w.heap.size w w11); clear hg hw hp_))
             go_roundg k1
             case measure => have := HK1.out; omega
             case rel => exact ⟨(y344), (wrap64 (x4_1 + 1)), es, H', ⟨kp⟩, ⟨kr HO_3⟩, ⟨bl⟩⟩
           · rw [if_neg c8] at H
             exact absurd H (by simp)
         · rw [if_neg c7] at H
           exact absurd H (by simp)
       · rw [if_neg c6] at H
         have c6b0 : decide (x4_1 < (l0.length : Int)) = false := decide_eq_false c6
         clear c6
         obtain rfl := Option.some.inj H
         go_wp2
         go_ret
         exact ⟨_, ew, kr HO_3, bl⟩
   · rw [if_neg c3] at H
     exact absurd H (by simp)
 · rw [if_neg c2] at H
   exact absurd H (by simp)

end Go.Proofs.Ytplekidnlofioaa.Q
namespace Go.Proofs.Ytplekidnlofioaa.Q
open Go.RowKit Go.Proofs.YtplekidnlofioaaW.PrintWords Go.Proofs.YtplekidnlofioaaW.PrintLast Go.Proofs.YtplekidnlofioaaW.PrintMore
attribute [local go_sem] max2_int min2_int max_two min_two max_three min_three max_four min_four   -- for this text's walks alone
set_option linter.unusedVariables false
set_option linter.unusedSimpArgs false

/-! ### laws_eqStringS: function 30 -/
def laws_eqStringS.l0 : Nat → List ByteArray → List ByteArray → Int → Option (Bool)
 | 0, _, _, _ => none
 | k + 1, x0, x1, x5 => if x5 < (x0.length : Int) then (if 0 ≤ x5 then (if x5 < (x1.length : Int) then (if (rdOf ByteArray.empty x0 x5).toList = (rdOf ByteArray.empty x1 x5).toList then (laws_eqStringS.l0 k x0 x1 (wrap64 (x5 + 1))) else (some false)) else (none)) else (none)) else (some true)
def laws_eqStringS.f (k : Nat) (l0 : List ByteArray) (l1 : List ByteArray) : Option (Bool) := if (l0.length : Int) = (l1.length : Int) then (laws_eqStringS.l0 k l0 l1 0) else (some false)
theorem laws_eqStringS.mono_l : ∀ k, (∀ y0 y1 y2, LeO (laws_eqStringS.l0 k y0 y1 y2) (laws_eqStringS.l0 (k + 1) y0 y1 y2))
 | 0 => fun _ _ _ r h => by simp [laws_eqStringS.l0] at h
 | k + 1 => by
  have ih0 := laws_eqStringS.mono_l k
  · intro y0 y1 y2
    unfold laws_eqStringS.l0
    repeat' first
    | (with_reducible exact ih0 _ _ _)
    | (with_reducible exact LeO.refl _)
    | (with_reducible exact LeO.none _)
    | (with_reducible refine LeO.ite ?_ ?_)
    | (with_reducible refine LeO.bind ?_ (fun _ => ?_))
    | exact ih0 _ _ _
    | exact LeO.none _
    | refine LeO.ite ?_ ?_
    | refine LeO.bind ?_ (fun _ => ?_)
theorem laws_eqStringS.mono : ∀ a0 a1 k, LeO (laws_eqStringS.f k a0 a1) (laws_eqStringS.f (k + 1) a0 a1) := by
 intro a0 a1 k
 have ih0 := laws_eqStringS.mono_l k
 unfold laws_eqStringS.f
 repeat' first
  | (with_reducible exact ih0 _ _ _)
  | (with_reducible exact LeO.refl _)
  | (with_reducible exact LeO.none _)
  | (with_reducible refine LeO.ite ?_ ?_)
  | (with_reducible refine LeO.bind ?_ (fun _ => ?_))
  | exact ih0 _ _ _
  | exact LeO.none _
  | refine LeO.ite ?_ ?_
  | refine LeO.bind ?_ (fun _ => ?_)
set_option maxHeartbeats 8000000 in
set_option maxRecDepth 100000 in
theorem laws_eqStringS.calls (k : Nat) (A0 : Option Addr) (c0 : Nat) (l0 : List ByteArray) (A1 : Option Addr) (c1 : Nat) (l1 : List ByteArray) (r : Bool) (w : World) (hr0 : Kd.C Kd.string w A0 l0.length l0) (hc0 : l0.length ≤ c0) (hr1 : Kd.C Kd.string w A1 l1.length l1) (hc1 : l1.length ≤ c1) (h : laws_eqStringS.f k l0 l1 = some r) :
 Calls Try.prog 30 #[.slice A0 l0.length c0, .slice A1 l1.length c1] w fun e w' => e = .returned (.bool r) ∧ Drawn0 w w' := by
 have HR0 := Aside0.mk hr0
 have HC0 := Aside0.mk hc0
 clear hr0 hc0
 have HR1 := Aside0.mk hr1
 have HC1 := Aside0.mk hc1
 clear hr1 hc1
 have H : (if (l0.length : Int) = (l1.length : Int) then (laws_eqStringS.l0 k l0 l1 0) else (some false)) = some r := h
 clear h
 by_cases c3 : (l0.length : Int) = (l1.length : Int)
 · rw [if_pos c3] at H
   have c3b0 : ((l0.length : Int) == (l1.length : Int)) = true := beq_iff_eq.mpr c3
   have c3b1 : ((l0.length : Int) != (l1.length : Int)) = false := bne_eq_false_iff_eq.mpr c3
   have c3b2 : (l0.length == l1.length) = true := by first | simpa using c3 | (simp at c3 ⊢; omega)
   clear c3
   have H' := Aside0.mk H
   clear H
   go_enter Try.func30, Try.ntmps30
   go_wp2
   repeat (go_quiet (fail); try go_wp2)
   go_loopg [5] k (fun kq v5 w' => ∃ (x5_1 : Int), v5 = .int .i64 x5_1 ∧ Aside0 (laws_eqStringS.l0 kq l0 l1 x5_1 = some r) ∧ Aside0 (kq ≤ k) ∧ Drawn0 w w')
   case atStart => exact ⟨(0), es, H', ⟨Nat.le_refl _⟩, dr0⟩
   case round =>
    clear H'
    try clear c1
    try clear p2
    try clear c3
    try clear c3b0
    try clear c3b1
    try clear c3b2
    obtain ⟨x5_1, rfl, HA, HK1, ⟨m1, rfl⟩⟩ := hrel
    cases gk with
    | zero => exact absurd HA.out (by simp [laws_eqStringS.l0])
    | succ k1 =>
     have H := HA.out
     clear HA
     simp only [laws_eqStringS.l0] at H
     by_cases c4 : x5_1 < (l0.length : Int)
     · rw [if_pos c4] at H
       have c4b0 : decide (x5_1 < (l0.length : Int)) = true := decide_eq_true c4
       clear c4
       by_cases c5 : 0 ≤ x5_1
       · rw [if_pos c5] at H
         have c5b0 : decide (0 ≤ x5_1) = true := decide_eq_true c5
         clear c5
         by_cases c6 : x5_1 < (l1.length : Int)
         · rw [if_pos c6] at H
           have c6b0 : decide (x5_1 < (l1.length : Int)) = true := decide_eq_true c6
           clear c6
           by_cases c7 : (rdOf ByteArray.empty l0 x5_1).toList = (rdOf ByteArray.empty l1 x5_1).toList
           · rw [if_pos c7] at H
             have c7b0 : ((rdOf ByteArray.empty l0 x5_1).toList == (rdOf ByteArray.empty l1 x5_1).toList) = true := beq_iff_eq.mpr c7
             have c7b1 : ((rdOf ByteArray.empty l0 x5_1).toList != (rdOf ByteArray.empty l1 x5_1).toList) = false := bne_eq_false_iff_eq.mpr c7
             clear c7
             have H' := Aside0.mk H
             clear H
             have p345 : 0 ≤ (x5_1 : Int) := of_decide_eq_true am
             have q345 : x5_1 < (l0.length : Int) := of_decide_eq_true am
             obtain ⟨ad345, e345, hx345_0⟩ := Kd.at_string HR0.out x5_1 p345 q345
             cases e345
             replace p345 := eq_true p345
             replace q345 := eq_true q345
             have p346 : 0 ≤ (x5_1 : Int) := of_decide_eq_true am
             have q346 : x5_1 < (l1.length : Int) := of_decide_eq_true am
             obtain ⟨ad346, e346, hx346_0⟩ := Kd.at_string HR1.out x5_1 p346 q346
             cases e346
             replace p346 := eq_true p346
             replace q346 := eq_true q346
             go_wp2
             repeat (go_quiet (fail); try go_wp2)
             go_roundg k1
             case measure => have := HK1.out; omega
             case rel => exact ⟨(wrap64 (x5_1 + 1)), es, H', ⟨kp⟩, dr0⟩
           · rw [if_neg c7] at H
             have c7b0 : ((rdOf ByteArray.empty l0 x5_1).toList == (rdOf ByteArray.empty l1 x5_1).toList) = false := beq_eq_false_iff_ne.mpr c7
             have c7b1 : ((rdOf ByteArray.empty l0 x5_1).toList != (rdOf ByteArray.empty l1 x5_1).toList) = true := bne_iff_ne.mpr c7
             obtain rfl := Option.some.inj H
             have p345 : 0 ≤ (x5_1 : Int) := of_decide_eq_true am
             have q345 : x5_1 < (l0.length : Int) := of_decide_eq_true am
             obtain ⟨ad345, e345, hx345_0⟩ := Kd.at_string HR0.out x5_1 p345 q345
             cases e345
             replace p345 := eq_true p345
             replace q345 := eq_true q345
             have p346 : 0 ≤ (x5_1 : Int) := of_decide_eq_true am
             have q346 : x5_1 < (l1.length : Int) := of_decide_eq_true am
             obtain ⟨ad346, e346, hx346_0⟩ := Kd.at_string HR1.out x5_1 p346 q346
             cases e346
             replace p346 := eq_true p346
             replace q346 := eq_true q346
             go_wp2
             repeat (go_quiet (fail); try go_wp2)
             go_ret
             exact ⟨es, dr0⟩
         · rw [if_neg c6] at H
           exact absurd H (by simp)
       · rw [if_neg c5] at H
         exact absurd H (by simp)
     · rw [if_neg c4] at H
       have c4b0 : decide (x5_1 < (l0.length : Int)) = false := decide_eq_false c4
       clear c4
       obtain rfl := Option.some.inj H
       go_wp2
       repeat (go_quiet (fail); try go_wp2)
       go_ret
       exact ⟨es, dr0⟩
 · rw [if_neg c3] at H
   have c3b0 : ((l0.length : Int) == (l1.length : Int)) = false := beq_eq_false_iff_ne.mpr c3
   have c3b1 : ((l0.length : Int) != (l1.length : Int)) = true := bne_iff_ne.mpr c3
   have c3b2 : (l0.length == l1.length) = false := by first | simpa using c3 | (simp at c3 ⊢; omega)
   obtain rfl := Option.some.inj H
   go_enter Try.func30, Try.ntmps30
   go_wp2
   repeat (go_quiet (fail); try go_wp2)
   go_ret
   exact ⟨es, dr0⟩

end Go.Proofs.Ytplekidnlofioaa.Q
namespace Go.Proofs.Ytplekidnlofioaa.Q
open Go.RowKit Go.Proofs.YtplekidnlofioaaW.PrintWords Go.Proofs.YtplekidnlofioaaW.PrintLast Go.Proofs.YtplekidnlofioaaW.PrintMore
attribute [local go_sem] max2_int min2_int max_two min_two max_three min_three max_four min_four   -- for this text's walks alone
set_option linter.unusedVariables false
set_option linter.unusedSimpArgs false

/-! ### laws_markStringS: function 31 -/
def laws_markStringS.l0 : Nat → List ByteArray → Int → Int → Option (Int × List ByteArray)
 | 0, _, _, _ => none
 | k + 1, x0, x1, x5 => if x5 < (x0.length : Int) then ((laws_markText.f k x1).bind fun t347 => (if 0 ≤ x5 then (laws_markStringS.l0 k (x0.set (x5 : Int).toNat t347) (wrap64 (x1 + 1)) (wrap64 (x5 + 1))) else (none))) else (some (x1, x0))
def laws_markStringS.f (k : Nat) (l0 : List ByteArray) (a1 : Int) : Option (Int × List ByteArray) := laws_markStringS.l0 k l0 a1 0
theorem laws_markStringS.mono_l : ∀ k, (∀ y0 y1 y2, LeO (laws_markStringS.l0 k y0 y1 y2) (laws_markStringS.l0 (k + 1) y0 y1 y2))
 | 0 => fun _ _ _ r h => by simp [laws_markStringS.l0] at h
 | k + 1 => by
  have ih0 := laws_markStringS.mono_l k
  · intro y0 y1 y2
    unfold laws_markStringS.l0
    repeat' first
    | (with_reducible exact ih0 _ _ _)
    | (with_reducible exact laws_markText.mono _ _)
    | (with_reducible exact LeO.refl _)
    | (with_reducible exact LeO.none _)
    | (with_reducible refine LeO.ite ?_ ?_)
    | (with_reducible refine LeO.bind ?_ (fun _ => ?_))
    | exact ih0 _ _ _
    | exact laws_markText.mono _ _
    | exact LeO.none _
    | refine LeO.ite ?_ ?_
    | refine LeO.bind ?_ (fun _ => ?_)
theorem laws_markStringS.mono : ∀ a0 a1 k, LeO (laws_markStringS.f k a0 a1) (laws_markStringS.f (k + 1) a0 a1) := by
 intro a0 a1 k
 have ih0 := laws_markStringS.mono_l k
 unfold laws_markStringS.f
 repeat' first
  | (with_reducible exact ih0 _ _ _)
  | (with_reducible exact laws_markText.mono _ _)
  | (with_reducible exact LeO.refl _)
  | (with_reducible exact LeO.none _)
  | (with_reducible refine LeO.ite ?_ ?_)
  | (with_reducible refine LeO.bind ?_ (fun _ => ?_))
  | exact ih0 _ _ _
  | exact laws_markText.mono _ _
  | exact LeO.none _
  | refine LeO.ite ?_ ?_
  | refine LeO.bind ?_ (fun _ => ?_)
set_option maxHeartbeats 8000000 in
set_option maxRecDepth 100000 in
theorem laws_markStringS.calls (k : Nat) (P0_ : Nat → Prop) (u9000_ : Value) (l0 : List ByteArray) (a1 : Int) (r1 : Int) (r2 : List ByteArray) (w0 w : World) (hB : Below w0.heap.size w0 w) (ho0 : Kd.R Kd.string 9 w w0.heap.size P0_ u9000_ l0) (h : laws_markStringS.f k l0 a1 = some (r1, r2)) :
 Calls Try.prog 31 #[u9000_, .int .i64 a1] w fun e w' => e = .returned (.int .i64 r1) ∧ Kd.R Kd.string 9 w' w0.heap.size (fun k_ => (P0_ k_ ∨ w.heap.size ≤ k_)) u9000_ r2 ∧ Below w0.heap.size w0 w' ∧ Kept w w' (fun k_ => P0_ k_) := by
 have HO0 := Aside0.mk (show Kd.R Kd.string 9 w w0.heap.size (fun k_ => (P0_ k_ ∨ w.heap.size ≤ k_)) u9000_ l0 from Kd.R_mono ho0 (fun k_ hk => (.inl hk)))
 have HK := Aside0.mk (Kept.refl w (fun k_ => P0_ k_))
 have HW0 := Aside0.mk hB.size
 have HB := Aside0.mk hB
 clear hB
 have H : (laws_markStringS.l0 k l0 a1 0) = some (r1, r2) := h
 clear h
 have H' := Aside0.mk H
 clear H
 go_enter Try.func31, Try.ntmps31
 go_wp2
 go_loopg [1, 5] k (fun kq v1 v5 w' => ∃ (x0_1 : List ByteArray) (x1_1 : Int) (x5_1 : Int), v1 = .int .i64 x1_1 ∧ v5 = .int .i64 x5_1 ∧ Aside0 (laws_markStringS.l0 kq x0_1 x1_1 x5_1 = some (r1, r2)) ∧ Aside0 (kq ≤ k) ∧ Aside0 (Kd.R Kd.string 9 w' w0.heap.size (fun k_ => (P0_ k_ ∨ w.heap.size ≤ k_)) u9000_ x0_1) ∧ Aside0 (Kept w w' (fun k_ => P0_ k_)) ∧ Aside0 (Below w0.heap.size w0 w'))
 case atStart => exact ⟨(l0), (a1), (0), es, es, H', ⟨Nat.le_refl _⟩, ⟨kr HO0⟩, ⟨by repeat (first | (with_reducible first | exact HK.out | apply Kept.alloc | apply Kept.drewN | apply Kept.drew) | exact HK.out)⟩, ⟨bl⟩⟩
 case round =>
  clear H'
  try clear p2
  obtain ⟨x0_1, x1_1, x5_1, rfl, rfl, HA, HK1, HO_0, HK, HB⟩ := hrel
  cases gk with
  | zero => exact absurd HA.out (by simp [laws_markStringS.l0])
  | succ k1 =>
   have H := HA.out
   clear HA
   simp only [laws_markStringS.l0] at H
   by_cases c3 : x5_1 < (x0_1.length : Int)
   · rw [if_pos c3] at H
     have c3b0 : decide (x5_1 < (x0_1.length : Int)) = true := decide_eq_true c3
     clear c3
     obtain ⟨t347, A40, H⟩ := bo H
     have A4 := Aside0.mk A40
     clear A40
     by_cases c5 : 0 ≤ x5_1
     · rw [if_pos c5] at H
       have c5b0 : decide (0 ≤ x5_1) = true := decide_eq_true c5
       clear c5
       obtain ⟨y348, hy348⟩ : ∃ y_ : List ByteArray, y_ = (x0_1.set (x5_1 : Int).toNat t347) := ⟨_, rfl⟩
       replace H : (laws_markStringS.l0 k1 y348 (wrap64 (x1_1 + 1)) (wrap64 (x5_1 + 1))) = some (r1, r2) := by first | (rw [hy348]; with_reducible exact H) | (have H2_ := (Option.bind_some _ _).symm.trans H; rw [hy348]; with_reducible exact H2_) | (have H2_ := (Option.bind_some _ _).symm.trans H; with_reducible exact H2_) | with_reducible exact H | (rw [hy348]; exact H) | exact H
       have Ny348 := Aside0.mk hy348
       clear hy348
       have H' := Aside0.mk H
       clear H
       obtain ⟨Ao7, co7, eo7⟩ := Kd.R_slice HO_0.out
       subst eo7
       go_wp2_with (first | ((with_reducible refine gate_callee (f := 82) rfl ?_); refine gl (some 15) Try.func82 #[.int .i64 x1_1] ?_; (with_reducible refine (laws_markText.calls k1 x1_1 t347 _ A4.out).mono ?_); rintro e w8 ⟨rfl, hb⟩; refine ⟨_, rfl, ?_⟩; replace HO_0 := ak (Kd.R_below (kr HO_0) hb); replace HK := ak (Kept.below (S := (fun k_ => P0_ k_)) (by repeat (first | (with_reducible first | exact HK.out | apply Kept.alloc | apply Kept.drewN | apply Kept.drew) | exact HK.out)) hb); replace HB := ak (below_step bl hb); (try clear hb); (try clear hb2); (try clear hk); (try clear hi); have p6 : 0 ≤ (x5_1 : Int) := of_decide_eq_true am; have q6 : (x5_1 : Int) < ((x0_1.length : Int) : Int) := of_decide_eq_true am; obtain ⟨go6, co6, eo6, gb6, gl6, cl6, HG6⟩ := Kd.R_form HO_0.out (by omega); (first | cases eo6 | (injection eo6 with ea_ en_ ec_; (first | subst ea_ | (injection ea_ with ea_; subst ea_)); subst ec_; clear en_)); have GB6 := Aside0.mk gb6; have GG6 := Aside0.mk HG6; clear gb6 gl6 HG6; have HMgo6 := Aside0.mk (show (P0_ go6 ∨ w.heap.size ≤ go6) from (HO_0.out.1 _ rfl)); obtain ⟨hx6_0, hf6_0⟩ := Kd.R_celln (⟨#[]⟩ : ByteArray) HO_0.out (x5_1 : Int) p6 q6; replace p6 := eq_true p6; replace q6 := eq_true q6; obtain ⟨hy9_, hz9_⟩ := Kd.R_celln (⟨#[]⟩ : ByteArray) HO_0.out (x5_1 : Int) (of_decide_eq_true am) (of_decide_eq_true am); have HP9 := Kd.R_putg HO_0.out (x5_1 : Int) t347) | ((with_reducible refine gate_store (t := 9) (p := 16) rfl ?_); refine store_event (t := 9) (p := 16) (v := ?vo_w10) (w1 := (w8.setCell ⟨go6, (x5_1 : Int).toNat, none⟩ (.string t347))) ?hg ?ho ?hn ?hr ?_; (case ho => rfl); (case hg => rfl); (case hn => rfl); (case hr => first | (go_simp; done) | (go_simp; rfl)); intro w10 hw; have hg : w8.grownBy w10 (some go6) := (by rw [hw]; exact HP9.2); have hp_ : Kd.R Kd.string 9 w10 w0.heap.size (fun k_ => (P0_ k_ ∨ w.heap.size ≤ k_)) (.slice (some ⟨go6, 0, none⟩) x0_1.length co7) y348 := (by rw [hw, Ny348.out]; exact HP9.1); clear HP9; replace HB := ak (by rw [hw]; exact below_set (HB.out) GB6.out : Below w0.heap.size w0 w10); replace HK := ak (Kept.of_grown (S := (fun k_ => P0_ k_)) hg (by repeat (first | (with_reducible first | exact HK.out | apply Kept.alloc | apply Kept.drewN | apply Kept.drew) | exact HK.out)) (fun k_ e_ => (HO_0.out.1 k_ e_))); replace HO_0 := ak hp_; clear hg hw hp_))
       go_roundg k1
       case measure => have := HK1.out; omega
       case rel => exact ⟨(y348), (wrap64 (x1_1 + 1)), (wrap64 (x5_1 + 1)), es, es, H', ⟨kp⟩, ⟨kr HO_0⟩, ⟨by repeat (first | (with_reducible first | exact HK.out | apply Kept.alloc | apply Kept.drewN | apply Kept.drew) | exact HK.out)⟩, ⟨bl⟩⟩
     · rw [if_neg c5] at H
       exact absurd H (by simp)
   · rw [if_neg c3] at H
     have c3b0 : decide (x5_1 < (x0_1.length : Int)) = false := decide_eq_false c3
     clear c3
     simp only [Option.some.injEq, Prod.mk.injEq] at H
     obtain ⟨rfl, rfl⟩ := H
     obtain ⟨Ao11, co11, eo11⟩ := Kd.R_slice HO_0.out
     subst eo11
     go_wp2
     go_ret
     exact ⟨ew, kr HO_0, bl, by repeat (first | (with_reducible first | exact HK.out | apply Kept.alloc | apply Kept.drewN | apply Kept.drew) | exact HK.out)⟩

end Go.Proofs.Ytplekidnlofioaa.Q
namespace Go.Proofs.Ytplekidnlofioaa.Q
open Go.RowKit Go.Proofs.YtplekidnlofioaaW.PrintWords Go.Proofs.YtplekidnlofioaaW.PrintLast
def inP (pods : List ByteArray) (a : ByteArray) : Bool := pods.any fun x => x.toList == a.toList
theorem rdT_mid (pre suf : List ByteArray) (p : ByteArray) : rdOf ByteArray.empty (pre ++ p :: suf) (pre.length : Int) = p := by simp [rdOf]
theorem index_l0_ev (l : List ByteArray) (a : ByteArray) (hl : l.length ≤ 1048576) : ∀ suf pre, l = pre ++ suf → ∃ r : Int, Ev (fun k => slices_Index_string_string.l0 k l a (l.length : Int) (pre.length : Int)) r ∧ (decide (r ≥ 0) = inP suf a) := by
  intro suf
  induction suf with
  | nil =>
    intro pre h
    refine ⟨-1, Ev.step (fun k => by rw [slices_Index_string_string.l0]) ?_, rfl⟩
    have hlt : ¬ ((pre.length : Int) < (l.length : Int)) := by rw [h]; simp
    simp only [if_neg hlt]
    exact Ev.now _
  | cons s suf ih =>
    intro pre h
    have hl2 : l.length = pre.length + (suf.length + 1) := by rw [h, List.length_append, List.length_cons]
    have hlt : (pre.length : Int) < (l.length : Int) := by omega
    have hw := wrapn pre.length (by omega)
    have hrd : rdOf ByteArray.empty l (pre.length : Int) = s := by rw [h]; exact rdT_mid _ _ _
    by_cases c : a.toList = s.toList
    · refine ⟨(pre.length : Int), Ev.step (fun k => by rw [slices_Index_string_string.l0]) ?_, ?_⟩
      · simp only [if_pos hlt, if_pos (nn _), hrd, if_pos c]
        exact Ev.now _
      · have : (s.toList == a.toList) = true := by rw [c]; exact beq_self_eq_true _
        simp [inP, this]
    · obtain ⟨r, hr, hd⟩ := ih (pre ++ [s]) (by rw [h]; simp)
      rw [List.length_append, List.length_singleton] at hr
      refine ⟨r, Ev.step (fun k => by rw [slices_Index_string_string.l0]) ?_, ?_⟩
      · simp only [if_pos hlt, if_pos (nn _), hrd, if_neg c, hw]
        exact hr
      · have : (s.toList == a.toList) = false := beq_eq_false_iff_ne.2 (fun e => c e.symm)
        rw [hd]
        simp [inP, this]
theorem contains_ev (l : List ByteArray) (a : ByteArray) (hl : l.length ≤ 1048576) : Ev (fun k => slices_Contains_string_string.f k l a) (inP l a) := by
  obtain ⟨r, hr, hd⟩ := index_l0_ev l a hl l [] rfl
  unfold slices_Contains_string_string.f
  have h2 : Ev (fun k => slices_Index_string_string.f k l a) r := hr
  refine Ev.bind h2 ?_
  rw [hd]
  exact Ev.now _
def wT : List ByteArray → Int
  | [] => 0
  | s :: r => s.size + wT r
theorem wT_nn : ∀ l, 0 ≤ wT l
  | [] => Int.le_refl _
  | s :: r => by have := wT_nn r; simp only [wT]; omega
theorem szStringS_l0_ev (xs : List ByteArray) (hx : xs.length ≤ 140737488351232) (hf : ∀ s ∈ xs, s.size ≤ 140737488351232) : ∀ suf pre (a : Int), xs = pre ++ suf → 0 ≤ a → a ≤ 1048576 → Ev (fun k => laws_szStringS.l0 k xs a (pre.length : Int)) (cutN (a - wT suf)) := by
  intro suf
  induction suf with
  | nil =>
    intro pre a h h0 _
    refine Ev.step (fun k => by rw [laws_szStringS.l0]) ?_
    have hlt : ¬ ((pre.length : Int) < (xs.length : Int)) := by rw [h]; simp
    simp only [if_neg hlt, wT, Int.sub_zero]
    rw [cutN_nn (by omega)]
    exact Ev.now _
  | cons s suf ih =>
    intro pre a h h0 h1
    have hl2 : xs.length = pre.length + (suf.length + 1) := by rw [h, List.length_append, List.length_cons]
    have hlt : (pre.length : Int) < (xs.length : Int) := by omega
    have hw := wrapn pre.length (by omega)
    have hrd : rdOf ByteArray.empty xs (pre.length : Int) = s := by rw [h]; exact rdT_mid _ _ _
    have hs := hf s (by rw [h]; simp)
    have hn := wT_nn suf
    have hwa : wrap64 (a - (s.size : Int)) = a - s.size := by unfold wrap64; omega
    refine Ev.step (fun k => by rw [laws_szStringS.l0]) ?_
    simp only [if_pos hlt, if_pos (nn _), hrd, hwa, hw, wT]
    by_cases c : a - (s.size : Int) < 0
    · simp only [if_pos c]
      rw [cutN_neg (by omega)]
      exact Ev.now _
    · simp only [if_neg c]
      have hr := ih (pre ++ [s]) (a - s.size) (by rw [h]; simp) (by omega) (by omega)
      rw [List.length_append, List.length_singleton] at hr
      rw [show a - ((s.size : Int) + wT suf) = a - s.size - wT suf from by omega]
      exact hr
theorem szStringS_ev (xs : List ByteArray) (hx : xs.length ≤ 140737488351232) (hf : ∀ s ∈ xs, s.size ≤ 140737488351232) (a : Int) (h0 : 0 ≤ a) (h1 : a ≤ 1048576) : Ev (fun k => laws_szStringS.f k xs a) (cutN (a - xs.length - wT xs)) := by
  have hwa : wrap64 (a - (xs.length : Int)) = a - xs.length := by unfold wrap64; omega
  have hn := wT_nn xs
  unfold laws_szStringS.f
  simp only [hwa]
  by_cases c : a - (xs.length : Int) < 0
  · simp only [if_pos c]
    rw [cutN_neg (by omega)]
    exact Ev.now _
  · simp only [if_neg c]
    exact szStringS_l0_ev xs hx hf xs [] _ rfl (by omega) (by omega)
theorem toStringS_l0_ev (xs : List ByteArray) (hx : xs.length ≤ 1048576) : ∀ suf pre, xs = pre ++ suf → Ev (fun k => laws_toStringS.l0 k xs (pre ++ List.replicate suf.length (⟨#[]⟩ : ByteArray)) (pre.length : Int)) xs := by
  intro suf
  induction suf with
  | nil =>
    intro pre h
    refine Ev.step (fun k => by rw [laws_toStringS.l0]) ?_
    have hlt : ¬ ((pre.length : Int) < (xs.length : Int)) := by rw [h]; simp
    simp only [if_neg hlt]
    rw [h, List.append_nil, List.length_nil, List.replicate_zero, List.append_nil]
    exact Ev.now _
  | cons s suf ih =>
    intro pre h
    have hl2 : xs.length = pre.length + (suf.length + 1) := by rw [h, List.length_append, List.length_cons]
    have hlt : (pre.length : Int) < (xs.length : Int) := by omega
    have hw := wrapn pre.length (by omega)
    have hrd : rdOf ByteArray.empty xs (pre.length : Int) = s := by rw [h]; exact rdT_mid _ _ _
    have hr := ih (pre ++ [s]) (by rw [h]; simp)
    rw [List.length_append, List.length_singleton, List.append_assoc, List.singleton_append] at hr
    have hl3 : (pre.length : Int) < ((pre ++ List.replicate (s :: suf).length (⟨#[]⟩ : ByteArray)).length : Int) := by simp; omega
    have hset : (pre ++ List.replicate (s :: suf).length (⟨#[]⟩ : ByteArray)).set pre.length s = pre ++ s :: List.replicate suf.length (⟨#[]⟩ : ByteArray) := by
      rw [List.length_cons, List.replicate_succ]
      exact set_mid _ _ _ _
    refine Ev.step (fun k => by rw [laws_toStringS.l0]) ?_
    simp only [if_pos hlt, if_pos (nn _), hrd, hw, if_pos hl3, Int.toNat_natCast]
    rw [hset]
    exact hr
theorem toStringS_ev (xs : List ByteArray) (hx : xs.length ≤ 1048576) : Ev (fun k => laws_toStringS.f k xs) xs := by
  unfold laws_toStringS.f
  simp only [if_pos (nn _), Int.toNat_natCast, show xs.length ≤ 17592186044416 from by omega, if_true]
  exact toStringS_l0_ev xs hx xs [] rfl
theorem eqStringS_l0_ev (xs : List ByteArray) (hx : xs.length ≤ 1048576) : ∀ suf pre, xs = pre ++ suf → Ev (fun k => laws_eqStringS.l0 k xs xs (pre.length : Int)) true := by
  intro suf
  induction suf with
  | nil =>
    intro pre h
    refine Ev.step (fun k => by rw [laws_eqStringS.l0]) ?_
    have hlt : ¬ ((pre.length : Int) < (xs.length : Int)) := by rw [h]; simp
    simp only [if_neg hlt]
    exact Ev.now _
  | cons s suf ih =>
    intro pre h
    have hl2 : xs.length = pre.length + (suf.length + 1) := by rw [h, List.length_append, List.length_cons]
    have hlt : (pre.length : Int) < (xs.length : Int) := by omega
    have hw := wrapn pre.length (by omega)
    have hr := ih (pre ++ [s]) (by rw [h]; simp)
    rw [List.length_append, List.length_singleton] at hr
    refine Ev.step (fun k => by rw [laws_eqStringS.l0]) ?_
    simp only [if_pos hlt, if_pos (nn _), hw, if_true]
    exact hr
theorem eqStringS_ev (xs : List ByteArray) (hx : xs.length ≤ 1048576) : Ev (fun k => laws_eqStringS.f k xs xs) true := by
  unfold laws_eqStringS.f
  simp only [if_true]
  exact eqStringS_l0_ev xs hx xs [] rfl
theorem markStringS_l0_ev : ∀ (suf pre : List ByteArray) (a : Int), 0 ≤ a → a + suf.length ≤ 4611686018427387000 → pre.length + suf.length ≤ 1048576 → ∃ m : List ByteArray, Ev (fun k => laws_markStringS.l0 k (pre ++ suf) a (pre.length : Int)) (a + suf.length, m) := by
  intro suf
  induction suf with
  | nil =>
    intro pre a _ _ _
    refine ⟨pre ++ [], Ev.step (fun k => by rw [laws_markStringS.l0]) ?_⟩
    have : a + ((([] : List ByteArray).length : Nat) : Int) = a := by simp
    simp only [if_neg (not_lt_end pre)]
    rw [this]
    exact Ev.now _
  | cons s suf ih =>
    intro pre a h0 h1 h2
    rw [List.length_cons] at h1 h2
    obtain ⟨m, hr⟩ := ih (pre ++ [markT a]) (a + 1) (by omega) (by omega) (by rw [List.length_append, List.length_singleton]; omega)
    rw [List.length_append, List.length_singleton, List.append_assoc, List.singleton_append] at hr
    refine ⟨m, Ev.step (fun k => by rw [laws_markStringS.l0]) ?_⟩
    have hw := wrapn pre.length (by omega)
    have hw1 : wrap64 (a + 1) = a + 1 := by unfold wrap64; omega
    simp only [if_pos (lt_mid _ _ _), hw, hw1, Int.toNat_natCast, set_mid]
    refine Ev.bind (markT_ev a (by omega)) ?_
    simp only [if_pos (nn _)]
    rw [show a + ((s :: suf).length : Int) = a + 1 + (suf.length : Int) from by rw [List.length_cons]; omega]
    exact hr
theorem markStringS_ev (l : List ByteArray) (a : Int) (h0 : 0 ≤ a) (h1 : a + l.length ≤ 4611686018427387000) (h2 : l.length ≤ 1048576) : ∃ m : List ByteArray, Ev (fun k => laws_markStringS.f k l a) (a + l.length, m) := markStringS_l0_ev l [] a h0 h1 (by simpa using h2)
def keepV (pods : List ByteArray) (l : List S81) : List S81 × Bool := if storeOk l = true ∧ pods.length ≤ 300 then (l.filter (fun s => inP pods s.f0), true) else (l, false)
theorem keep_l1_ev (pods : List ByteArray) (hp : pods.length ≤ 1048576) (l acc : List S81) (i : Nat) (s : S81) (hi : l[i]? = some s) (ha : acc.length ≤ 1048576) (hb : i ≤ 1048576) (R : List S81 × Bool)
    (hR : Ev (fun k => spec_KeepPods.l0 k pods l (if inP pods s.f0 = true then acc ++ [s] else acc) ((i + 1 : Nat) : Int)) R) :
    ∀ suf pre, pods = pre ++ suf → Ev (fun k => spec_KeepPods.l1 k pods l acc (i : Int) (inP pre s.f0) (pre.length : Int)) R := by
  have hil := (List.getElem?_eq_some_iff.1 hi).1
  have hlt : (i : Int) < (l.length : Int) := by omega
  have hrd : rd_T81 l (i : Int) = s := by simp [rd_T81, hi]
  have hw := wrapn i (by omega)
  have hacc : acc.length < 2513169434916 := by omega
  intro suf
  induction suf with
  | nil =>
    intro pre h
    rw [List.append_nil] at h
    subst h
    refine Ev.step (fun k => by rw [spec_KeepPods.l1]) ?_
    simp only [if_neg (Int.lt_irrefl _)]
    by_cases c : inP pods s.f0 = true
    · rw [if_pos c] at hR
      simp only [if_pos c, if_pos (nn _), if_pos hlt, hrd, if_pos hacc, hw]
      exact hR
    · rw [if_neg c] at hR
      simp only [if_neg c, hw]
      exact hR
  | cons p suf ih =>
    intro pre h
    have hl2 : pods.length = pre.length + (suf.length + 1) := by rw [h, List.length_append, List.length_cons]
    have hn : (pre.length : Int) < (pods.length : Int) := by omega
    have hrp : rdOf ByteArray.empty pods (pre.length : Int) = p := by rw [h]; exact rdT_mid _ _ _
    have hwp := wrapn pre.length (by omega)
    have hr := ih (pre ++ [p]) (by rw [h]; simp)
    rw [List.length_append, List.length_singleton] at hr
    have hi2 : inP (pre ++ [p]) s.f0 = (inP pre s.f0 || (p.toList == s.f0.toList)) := by simp [inP]
    rw [hi2] at hr
    refine Ev.step (fun k => by rw [spec_KeepPods.l1]) ?_
    simp only [if_pos hn, hwp, hrp]
    by_cases c : inP pre s.f0 = true
    · rw [c, Bool.true_or] at hr
      simp only [if_pos c]
      exact hr
    · have c2 : inP pre s.f0 = false := by simpa using c
      rw [c2, Bool.false_or] at hr
      simp only [if_neg c, if_pos (nn _), if_pos hlt, hrd]
      exact hr
theorem keep_l0_ev (pods : List ByteArray) (hp : pods.length ≤ 1048576) (l : List S81) (hx : l.length ≤ 1048576) : ∀ suf pre, l = pre ++ suf → Ev (fun k => spec_KeepPods.l0 k pods l (pre.filter fun s => inP pods s.f0) (pre.length : Int)) (l.filter (fun s => inP pods s.f0), true) := by
  intro suf
  induction suf with
  | nil =>
    intro pre h
    rw [List.append_nil] at h
    subst h
    refine Ev.step (fun k => by rw [spec_KeepPods.l0]) ?_
    simp only [if_neg (Int.lt_irrefl _)]
    exact Ev.now _
  | cons s suf ih =>
    intro pre h
    have hl : l.length = pre.length + (suf.length + 1) := by rw [h, List.length_append, List.length_cons]
    refine Ev.step (fun k => by rw [spec_KeepPods.l0]) ?_
    have hlt : (pre.length : Int) < (l.length : Int) := by omega
    simp only [if_pos hlt]
    have hr := ih (pre ++ [s]) (by rw [h]; simp)
    have hfl := List.length_filter_le (fun s : S81 => inP pods s.f0) pre
    refine keep_l1_ev pods hp l _ pre.length s (by rw [h]; simp) (by omega) (by omega) _ ?_ pods [] rfl
    rw [List.filter_append, List.length_append, List.length_singleton] at hr
    by_cases c : inP pods s.f0 = true
    · simp only [List.filter_cons, c, if_true, List.filter_nil] at hr
      rw [if_pos c]
      exact hr
    · have c2 : inP pods s.f0 = false := by simpa using c
      simp only [List.filter_cons, c2, if_neg Bool.false_ne_true, List.filter_nil, List.append_nil] at hr
      rw [if_neg c]
      exact hr
theorem spec_KeepPods_ev (pods : List ByteArray) (hp : pods.length ≤ 1048576) (l : List S81) (hx : l.length ≤ 1048576) (hf : ∀ s ∈ l, s.f2.length ≤ 1048576) (hfit : ∀ s ∈ l, fitS s) : Ev (fun k => spec_KeepPods.f k l pods) (keepV pods l) := by
  unfold spec_KeepPods.f keepV
  refine Ev.bind (spec_l03Copy_ev l hx hf) ?_
  refine Ev.bind (spec_StoreOk_ev l (by omega) hfit) ?_
  by_cases h : storeOk l = true
  · simp only [if_pos h]
    refine Ev.step (fun k => by rw [spec_KeepPods.j0]) ?_
    by_cases c : pods.length ≤ 300
    · have c2 : decide ((pods.length : Int) > 300) = false := decide_eq_false (by omega)
      rw [if_pos ⟨h, c⟩]
      simp only [c2, if_neg Bool.false_ne_true]
      exact keep_l0_ev pods hp l hx l [] rfl
    · have c2 : decide ((pods.length : Int) > 300) = true := decide_eq_true (by omega)
      rw [if_neg (fun e => c e.2)]
      simp only [c2, if_true]
      exact Ev.now _
  · simp only [if_neg h]
    rw [if_neg (fun e => h e.1)]
    refine Ev.step (fun k => by rw [spec_KeepPods.j0]) ?_
    simp only [if_true]
    exact Ev.now _
end Go.Proofs.Ytplekidnlofioaa.Q
namespace Go.Proofs.Ytplekidnlofioaa.Q
open Go.RowKit Go.Proofs.YtplekidnlofioaaW.PrintWords Go.Proofs.YtplekidnlofioaaW.PrintLast Go.Proofs.YtplekidnlofioaaW.PrintMore
attribute [local go_sem] max2_int min2_int max_two min_two max_three min_three max_four min_four
set_option linter.unusedVariables false
set_option linter.unusedSimpArgs false
set_option maxHeartbeats 8000000 in
set_option maxRecDepth 100000 in
theorem indexFuncS (p : List Value → Bool) (cap_ : Array Value) (rows : List (List Value)) (base : Nat) (ok : Nat → Prop) (v : Value) (w : World) (hR : (Kd.raw 3).R 81 w base ok v rows) (hlen : rows.length ≤ 4611686018427387000)
    (hp : ∀ W cs, Kept w W (fun k => some k = v.ownBlock) → cs ∈ rows → Calls Try.prog 76 (#[.agg cs.toArray] ++ cap_) W fun e W' => e = .returned (.bool (p cs)) ∧ Below W.heap.size W W') :
    Calls Try.prog 132 #[v, .func (.func 76) #[] cap_] w fun e w' => e = .returned (.int .i64 (idxV p rows)) ∧ Below w.heap.size w w' := by
  have HO := ak hR
  have HP := ak hp
  have HL := ak hlen
  have HB := ak (Below.refl w.heap.size w)
  obtain ⟨Ao, co, eo⟩ := Kd.R_slice hR
  subst eo
  clear hR hp hlen
  go_enter Try.func132, Try.ntmps132
  go_wp2
  go_loopg [5, 8] rows.length (fun kq v5 v8 w' => ∃ (pre suf : List (List Value)) (x8 : Int), v8 = .int .i64 x8 ∧ Aside0 (rows = pre ++ suf ∧ x8 = (pre.length : Int) ∧ suf.length ≤ kq ∧ ∀ c ∈ pre, p c = false) ∧ Aside0 (Below w.heap.size w w'))
  case atStart => exact ⟨[], rows, 0, rfl, ⟨rfl, rfl, Nat.le_refl _, fun c hc => by cases hc⟩, ⟨bl⟩⟩
  case round =>
    obtain ⟨pre, suf, x8, rfl, HA, HB⟩ := hrel
    obtain ⟨h1, h2, h3, h4⟩ := HA.out
    cases suf with
    | nil =>
      have c1 : decide (x8 < (rows.length : Int)) = false := decide_eq_false (by rw [h1, List.append_nil]; omega)
      have e1 : idxV p rows = -1 := by rw [h1, List.append_nil]; exact idxV_none h4
      have E1 := ak e1
      clear e1 h1 h2 h3 h4
      go_wp2
      go_ret
      exact ⟨by first | rfl | (rw [E1.out]; rfl), bl⟩
    | cons c suf =>
      have h5 : rows.length = pre.length + (suf.length + 1) := by rw [h1, List.length_append, List.length_cons]
      have hL := HL.out
      have c1 : decide (x8 < (rows.length : Int)) = true := decide_eq_true (by omega)
      have pz : 0 ≤ x8 := by omega
      have qz : x8 < ((rows.length : Nat) : Int) := by omega
      obtain ⟨g, cap, eo, gb, gl_, cl, HG⟩ := Kd.R_form HO.out (by omega)
      injection eo with e1_ _ e3_
      subst e1_ e3_
      have HR := Kd.R_below HO.out HB.out
      obtain ⟨cc, hcl, hM, hcc, hfr⟩ := Kd.R_elem HR [] x8 pz qz
      have hget : rows.getD x8.toNat [] = c := by rw [h1, h2, Int.toNat_natCast]; exact getD_mid _ _ _ _
      rw [hget] at hM
      obtain ⟨rfl, hsz, hone⟩ := hM
      obtain ⟨c0, c1, c2, rfl⟩ : ∃ c0 c1 c2, cc = [c0, c1, c2] := cells3 hsz
      have hx_0 : wr.cell? ⟨g, x8.toNat * 3, none⟩ = some c0 := hcc 0 _ rfl
      have hx_1 : wr.cell? ⟨g, x8.toNat * 3 + 1, none⟩ = some c1 := hcc 1 _ rfl
      have hx_2 : wr.cell? ⟨g, x8.toNat * 3 + 2, none⟩ = some c2 := hcc 2 _ rfl
      obtain ⟨x9, hx9⟩ : ∃ y, y = x8 + 1 := ⟨_, rfl⟩
      have w89 : IntKind.i64.wrap (x8 + 1) = x9 := (i64_w _).trans (by rw [hx9]; unfold wrap64; omega)
      have ho_0 : c0.oneCell' = true := hone _ (by simp)
      have ho_1 : c1.oneCell' = true := hone _ (by simp)
      have ho_2 : c2.oneCell' = true := hone _ (by simp)
      have HC := ak (HP.out _ [c0, c1, c2] (Kept.of_below HB.out _) (by rw [h1]; exact List.mem_append_right _ List.mem_cons_self))
      replace pz := eq_true pz
      replace qz := eq_true qz
      cases hq : p [c0, c1, c2] with
      | true =>
        have e1 : idxV p rows = x8 := by rw [h1, h2]; exact idxV_some h4 hq
        have E1 := ak e1
        rw [hq] at HC
        clear e1 h1 h2 h3 h4 h5 hL HR hcl hcc hfr hsz hone hget hx9 HG gb gl_ cl hq w89
        go_wp2_with (go_at_call 76; refine HC.out.mono ?_; rintro e w' ⟨rfl, hb⟩; replace HB := ak (below_step bl hb); clear hb)
        go_ret
        exact ⟨by first | rfl | (rw [E1.out]; rfl), bl⟩
      | false =>
        have HA2 := ak (show rows = (pre ++ [[c0, c1, c2]]) ++ suf ∧ x9 = ((pre ++ [[c0, c1, c2]]).length : Int) ∧ suf.length ≤ suf.length ∧ ∀ c ∈ pre ++ [[c0, c1, c2]], p c = false from ⟨by rw [h1]; simp, by rw [List.length_append, List.length_singleton]; omega, Nat.le_refl _, fun c hc => by
          rcases List.mem_append.1 hc with hc | hc
          · exact h4 c hc
          · rw [List.mem_singleton.1 hc]; exact hq⟩)
        have H3 := ak h3
        rw [hq] at HC
        clear h1 h2 h3 h4 h5 hL HR hcl hcc hfr hsz hone hget hx9 HG gb gl_ cl hq
        go_wp2_with (go_at_call 76; refine HC.out.mono ?_; rintro e w' ⟨rfl, hb⟩; replace HB := ak (below_step bl hb); clear hb)
        go_roundg suf.length
        case measure => have := H3.out; simp only [List.length_cons] at this; omega
        case rel => exact ⟨pre ++ [[c0, c1, c2]], suf, x9, rfl, HA2, ⟨bl⟩⟩
/-- What is not struck. -/
abbrev keepS (p : List Value → Bool) (l : List (List Value)) : List (List Value) := l.filter fun c => !p c
set_option maxHeartbeats 8000000 in
set_option maxRecDepth 100000 in
theorem deleteFuncS (p : List Value → Bool) (cap_ : Array Value) (rows : List (List Value)) (ok : Nat → Prop) (v : Value) (w0 w : World) (hB : Below w0.heap.size w0 w) (hR : (Kd.raw 3).R 81 w w0.heap.size ok v rows) (hlen : rows.length ≤ 4611686018427387000) (hgd : ∀ c ∈ rows, ∃ (a b : ByteArray) (A : Option Addr) (m k : Nat), c = [Value.string a, Value.string b, Value.slice A m k])
    (hp : ∀ W cs, Kept w W (fun k => some k = v.ownBlock) → cs ∈ rows → Calls Try.prog 76 (#[.agg cs.toArray] ++ cap_) W fun e W' => e = .returned (.bool (p cs)) ∧ Below W.heap.size W W') :
    Calls Try.prog 75 #[v, .func (.func 76) #[] cap_] w fun e w' => ∃ v' : Value, e = .returned v' ∧ (Kd.raw 3).R 81 w' w0.heap.size ok v' (rows.filter fun c => !p c) ∧ v'.ownBlock = v.ownBlock ∧ Below w0.heap.size w0 w' ∧ Kept w w' (fun k => some k = v.ownBlock) := by
  have hIF := indexFuncS p cap_ rows w0.heap.size ok v w hR hlen hp
  have HB := ak hB
  rcases idxV_cases p rows with ⟨e1, hall⟩ | ⟨pre, c, suf, e1, hpre, hc, e2⟩
  · have ef : (rows.filter fun c => !p c) = rows := List.filter_eq_self.2 (fun c hc => by simp [hall c hc])
    rw [e1] at hIF
    rw [ef]
    have HI := ak hIF
    have HR := ak hR
    obtain ⟨Ao, co, eo⟩ := Kd.R_slice hR
    subst eo
    clear hp hIF hR hgd ef e1 hall hB
    go_enter Try.func75, Try.ntmps75
    go_wp2_with (go_at_call 132; refine HI.out.mono ?_; rintro e w1 ⟨rfl, hb⟩; have HK := ak (Kept.of_below hb (fun k => some k = (Value.slice Ao rows.length co).ownBlock)); replace HR := ak (Kd.R_below HR.out hb); replace HB := ak (below_step HB.out hb); clear hb)
    go_ret
    exact ⟨_, rfl, HR.out, rfl, HB.out, HK.out⟩
  · rw [e2] at hIF
    have h0 : 0 < rows.length := by rw [e1, List.length_append, List.length_cons]; omega
    obtain ⟨g, cap, eo, gb_, gl_, cl, HG⟩ := Kd.R_form hR h0
    subst eo
    obtain ⟨n, hn⟩ : ∃ n, n = rows.length := ⟨_, rfl⟩
    rw [← hn] at hR hIF hp ⊢
    have hso : ∀ k, (some k = (Value.slice (some ⟨g, 0, none⟩) n cap).ownBlock) = (k = g) := fun k => by simp [Value.ownBlock]
    simp only [hso] at hp ⊢
    have OKG := ak (show ok g from hR.1 g (by simp [Value.ownBlock]))
    have HI := ak hIF
    have HP := ak hp
    have HO := ak (show (Kd.raw 3).R 81 w w0.heap.size (fun k => k = g) (.slice (some ⟨g, 0, none⟩) n cap) rows from by obtain ⟨_, inner, ho, hr⟩ := hR; exact ⟨fun k hk => by simpa [Value.ownBlock] using hk.symm, inner, ho, hr⟩)
    have GB := ak gb_
    have HN := ak (show rows.length = n ∧ n ≤ 4611686018427387000 from ⟨hn.symm, by omega⟩)
    have HGD := ak hgd
    have E1 := ak (show rows = pre ++ c :: suf ∧ (∀ d ∈ pre, p d = false) ∧ p c = true from ⟨e1, hpre, hc⟩)
    obtain ⟨x5, hx5⟩ : ∃ y, y = (pre.length : Int) := ⟨_, rfl⟩
    obtain ⟨x6, hx6⟩ : ∃ y, y = x5 + 1 := ⟨_, rfl⟩
    rw [← hx5] at HI
    have hb1 : pre.length + (suf.length + 1) = rows.length := by rw [e1, List.length_append, List.length_cons]
    have w56 : IntKind.i64.wrap (x5 + 1) = x6 := (i64_w _).trans (by rw [hx6]; unfold wrap64; omega)
    have ne1 : decide (x5 = -1) = false := decide_eq_false (by omega)
    have ne2 : (x5 == -1) = false := beq_eq_false_iff_ne.2 (by omega)
    have X56 := ak (show x5 = (pre.length : Int) ∧ x6 = ((pre ++ [c]).length : Int) from ⟨hx5, by rw [List.length_append, List.length_singleton]; omega⟩)
    clear hp hIF hR hgd e1 hpre hc e2 hB h0 gb_ gl_ cl HG hso hx5 hx6 hn hlen hb1
    go_enter Try.func75, Try.ntmps75
    go_wp2_with (go_at_call 132; refine HI.out.mono ?_; rintro e w1 ⟨rfl, hb⟩; have HK := ak (Kept.of_below hb (fun k => k = g)); replace HO := ak (Kd.R_below HO.out hb); replace HB := ak (below_step HB.out hb); clear hb)
    go_loopg [5, 6] suf.length (fun kq v5 v6 w' => ∃ (dn kept mid rest : List (List Value)) (x5 x6 : Int), v5 = .int .i64 x5 ∧ v6 = .int .i64 x6 ∧ Aside0 (rows = dn ++ rest ∧ kept = (dn.filter fun c => !p c) ∧ x5 = (kept.length : Int) ∧ x6 = (dn.length : Int) ∧ dn.length = kept.length + mid.length ∧ 0 < mid.length ∧ rest.length ≤ kq) ∧ Aside0 ((Kd.raw 3).R 81 w' w0.heap.size (fun k => k = g) (.slice (some ⟨g, 0, none⟩) n cap) (kept ++ mid ++ rest)) ∧ Aside0 (Kept w w' (fun k => k = g)) ∧ Aside0 (Below w0.heap.size w0 w'))
    case atStart =>
      obtain ⟨h1, h2, h3⟩ := E1.out
      have hf : ((pre ++ [c]).filter fun c => !p c) = pre := by
        rw [List.filter_append, List.filter_eq_self.2 (fun d hd => by simp [h2 d hd])]
        simp [h3]
      exact ⟨pre ++ [c], pre, [c], suf, x5, x6, rfl, rfl, ⟨⟨by rw [h1]; simp, hf.symm, X56.out.1, X56.out.2, by simp, by simp, Nat.le_refl _⟩⟩, ⟨by have := HO.out; rw [h1] at this; rw [List.append_assoc]; exact this⟩, ⟨HK.out⟩, ⟨HB.out⟩⟩
    case round =>
      clear E1 X56 HO HK HB
      obtain ⟨dn, kept, mid, rest, x5, x6, rfl, rfl, HA, HO, HK, HB⟩ := hrel
      obtain ⟨h1, h2, h3, h4, h5, h6, h7⟩ := HA.out
      have hN := HN.out.1
      have hN2 := HN.out.2
      have h8 : rows.length = dn.length + rest.length := by rw [h1, List.length_append]
      have P5 := ak (show 0 ≤ x5 by omega)
      have Q5 := ak (show x5 < (n : Int) by omega)
      have p5 := eq_true P5.out
      have q5 := eq_true Q5.out
      cases rest with
      | nil =>
        have c1 : decide (x6 < (n : Int)) = false := decide_eq_false (by rw [List.length_nil] at h8; omega)
        rw [List.append_nil] at h1 HO
        rw [List.length_nil] at h8
        obtain ⟨cur, hbk, hc1, hc2, hc3, hc4⟩ := raw_blk HO.out
        have hx0 : x5.toNat < n := by omega
        have hcl := fun ty => run_clear_n (P := Try.prog) (n := n - x5.toNat) wr 24 81 ty (.agg #[Value.string (⟨#[]⟩ : ByteArray), Value.string (⟨#[]⟩ : ByteArray), Value.slice none 0 0]) #[Value.string (⟨#[]⟩ : ByteArray), Value.string (⟨#[]⟩ : ByteArray), Value.slice none 0 0] Try.underlying24 Try.zeroValue81 rfl (zeroCells_one _ _ (by decide) (by decide)) g (x5.toNat * 3) (cap - x5.toNat) (by omega) cur hbk (by rw [hc3]; show x5.toNat * 3 + (n - x5.toNat) * 3 ≤ cap * 3; omega)
        obtain ⟨cur', hb', hs', ht'⟩ := setCells_blk g 81 (Builtin.zeroCells #[Value.string (⟨#[]⟩ : ByteArray), Value.string (⟨#[]⟩ : ByteArray), Value.slice none 0 0] (n - x5.toNat)).toList (x5.toNat * 3) wr cur hbk
        have HX := ak (raw_cut (m := x5.toNat) (ok' := ok) HO.out (by omega) hbk hb' hs' (fun k hk => ht' k hk) OKG.out)
        have HF := ak (show kept = (rows.filter fun c => !p c) from by rw [h2, h1])
        have hKB : Kept wr (wr.setCells g (x5.toNat * 3) (Builtin.zeroCells #[Value.string (⟨#[]⟩ : ByteArray), Value.string (⟨#[]⟩ : ByteArray), Value.slice none 0 0] (n - x5.toNat)).toList) (fun k => k = g) := ⟨by rw [setCells_size]; exact Nat.le_refl _, fun i _ hi => setCells_far g _ _ _ i hi⟩
        have HKB := ak hKB
        have cap5 : x5.toNat ≤ cap := by omega
        have cap6 : ¬ (cap = x5.toNat) := by omega
        have cap7 : ¬ (x5.toNat = cap) := by omega
        have le5 : decide (x5 ≤ (n : Int)) = true := decide_eq_true (by omega)
        clear hb' hs' ht' h1 h2 h3 h4 h5 h6 h7 h8 hN hN2 hbk hc1 hc2 hc3 hc4 hKB HA
        go_wp2
        go_ret
        exact ⟨_, rfl, by rw [← HF.out]; exact HX.out, rfl, setCells_below GB.out _ _ _ HB.out, Kept.then_ HK.out HKB.out (fun k hk => .inl hk)⟩
      | cons c0 rest =>
        rw [List.length_cons] at h8
        have pz : 0 ≤ x6 := by omega
        have qz : x6 < (n : Int) := by omega
        have c1 : decide (x6 < (n : Int)) = true := decide_eq_true qz
        obtain ⟨a, b, A, m, k, rfl⟩ := HGD.out c0 (by rw [h1]; exact List.mem_append_right _ List.mem_cons_self)
        have HM := ak (show [Value.string a, Value.string b, Value.slice A m k] ∈ rows from by rw [h1]; exact List.mem_append_right _ List.mem_cons_self)
        have GL := ak (Kd.R_lt HO.out g (by simp [Value.ownBlock]))
        obtain ⟨cc, hcl, hM, hcc, hfr⟩ := Kd.R_elem HO.out [] x6 pz qz
        have hget : (kept ++ mid ++ ([Value.string a, Value.string b, Value.slice A m k] :: rest)).getD x6.toNat [] = [Value.string a, Value.string b, Value.slice A m k] := by
          rw [show x6.toNat = (kept ++ mid).length from by rw [List.length_append]; omega]
          exact getD_mid _ _ _ _
        rw [hget] at hM
        obtain ⟨rfl, _, _⟩ := hM
        have hx6_0 : wr.cell? ⟨g, x6.toNat * 3, none⟩ = some (Value.string a) := hcc 0 _ rfl
        have hx6_1 : wr.cell? ⟨g, x6.toNat * 3 + 1, none⟩ = some (Value.string b) := hcc 1 _ rfl
        have hx6_2 : wr.cell? ⟨g, x6.toNat * 3 + 2, none⟩ = some (Value.slice A m k) := hcc 2 _ rfl
        obtain ⟨x7, hx7⟩ : ∃ y, y = x5 + 1 := ⟨_, rfl⟩
        have w57 : IntKind.i64.wrap (x5 + 1) = x7 := (i64_w _).trans (by rw [hx7]; unfold wrap64; omega)
        obtain ⟨x8, hx8⟩ : ∃ y, y = x6 + 1 := ⟨_, rfl⟩
        have w68 : IntKind.i64.wrap (x6 + 1) = x8 := (i64_w _).trans (by rw [hx8]; unfold wrap64; omega)
        have RA := ak (show rows = (dn ++ [[Value.string a, Value.string b, Value.slice A m k]]) ++ rest ∧ x8 = ((dn ++ [[Value.string a, Value.string b, Value.slice A m k]]).length : Int) from ⟨by rw [h1]; simp, by rw [List.length_append, List.length_singleton]; omega⟩)
        have H7 := ak h7
        cases hq : p [Value.string a, Value.string b, Value.slice A m k] with
        | true =>
          have RB := ak (show kept = ((dn ++ [[Value.string a, Value.string b, Value.slice A m k]]).filter fun c => !p c) ∧ x5 = (kept.length : Int) ∧ (dn ++ [[Value.string a, Value.string b, Value.slice A m k]]).length = kept.length + (mid ++ [[Value.string a, Value.string b, Value.slice A m k]]).length ∧ 0 < (mid ++ [[Value.string a, Value.string b, Value.slice A m k]]).length from ⟨by rw [List.filter_append, ← h2]; simp [hq], h3, by rw [List.length_append, List.length_append, List.length_singleton]; omega, by rw [List.length_append, List.length_singleton]; omega⟩)
          have HC := ak (show ∀ W, Kept w W (fun k => k = g) → Calls Try.prog 76 (#[.agg ([Value.string a, Value.string b, Value.slice A m k] : List Value).toArray] ++ cap_) W fun e W' => e = .returned (.bool true) ∧ Below W.heap.size W W' from fun W hk => by have := HP.out W _ hk HM.out; rw [hq] at this; exact this)
          clear h1 h2 h3 h4 h5 h6 h7 h8 hN hN2 hx7 hx8 hq hget hcl hcc hfr HA
          go_wp2_with (first | ((with_reducible refine gate_dst (N := 7) rfl ?_); refine bx 7 #[Value.string (⟨#[]⟩ : ByteArray), Value.string (⟨#[]⟩ : ByteArray), Value.slice none 0 0] 81 ?_; intro gb hg w1 hbox hb; have BK := ak hbox; have GE := ak (show w.heap.size ≤ gb from by rw [hg]; exact HK.out.1); have G0 := ak (show w0.heap.size ≤ gb from by rw [hg]; exact below_size HB.out); have NG := ak (show g ≠ gb from by rw [hg]; exact Nat.ne_of_lt GL.out); replace HO := ak (Kd.R_below HO.out hb); replace HK := ak (Kept.below HK.out hb); replace HB := ak (below_step HB.out hb); clear hb hbox hg; obtain ⟨hcz_0, hcz_1, hcz_2, hfz_0, hfz_1, hfz_2⟩ := cz3 BK) | (go_at_call 76; (refine (HC.out _ ?sk).mono ?_); (case sk => repeat (first | (with_reducible first | exact HK.out | apply Kept.alloc | apply Kept.drewN | apply Kept.drew | refine Kept.setCell ?_ (.inr GE.out) _) | exact HK.out)); rintro e w3 ⟨rfl, hb⟩; replace BK := ak (blk_below (blk_put (cs := #[Value.string a, Value.string b, Value.slice none 0 0]) (blk_put (cs := #[Value.string a, Value.string (⟨#[]⟩ : ByteArray), Value.slice none 0 0]) (blk_put (cs := #[Value.string (⟨#[]⟩ : ByteArray), Value.string (⟨#[]⟩ : ByteArray), Value.slice none 0 0]) BK.out 0 _ rfl) 1 _ rfl) 2 _ rfl) hb); replace HO := ak (Kd.R_below (Kd.R_far (Kd.R_far (Kd.R_far HO.out (p := ⟨gb, 0, none⟩) (fun k hk => by rw [hk]; exact NG.out) (Value.string a)) (p := ⟨gb, 1, none⟩) (fun k hk => by rw [hk]; exact NG.out) (Value.string b)) (p := ⟨gb, 2, none⟩) (fun k hk => by rw [hk]; exact NG.out) (Value.slice A m k)) hb); replace HK := ak (Kept.below (S := fun k => k = g) (by repeat (first | (with_reducible first | exact HK.out | apply Kept.alloc | apply Kept.drewN | apply Kept.drew | refine Kept.setCell ?_ (.inr GE.out) _) | exact HK.out)) hb); replace HB := ak (below_step (bl1 G0) hb); clear hb; obtain ⟨hcz_0, hcz_1, hcz_2, hfz_0, hfz_1, hfz_2⟩ := cz3 BK; obtain ⟨cc, hcl, hM, hcc, hfr⟩ := Kd.R_elem HO.out [] x5 P5.out Q5.out; obtain ⟨o0, o1, o2, rfl⟩ := cells3 hcl; have hx5_0 : w3.cell? ⟨g, x5.toNat * 3, none⟩ = some o0 := hcc 0 _ rfl; have hx5_1 : w3.cell? ⟨g, x5.toNat * 3 + 1, none⟩ = some o1 := hcc 1 _ rfl; have hx5_2 : w3.cell? ⟨g, x5.toNat * 3 + 2, none⟩ = some o2 := hcc 2 _ rfl; have hf5_0 : w3.frozen? ⟨g, x5.toNat * 3, none⟩ = false := hfr 0; have hf5_1 : w3.frozen? ⟨g, x5.toNat * 3 + 1, none⟩ = false := hfr 1; have hf5_2 : w3.frozen? ⟨g, x5.toNat * 3 + 2, none⟩ = false := hfr 2; have HS := Kd.R_seg HO.out x5 P5.out Q5.out (seg := [Value.string a, Value.string b, Value.slice A m k]) (j := 0) hcl hcc (show 0 + 3 ≤ 3 from by decide) (x' := [Value.string a, Value.string b, Value.slice A m k]) (okp := fun _ => False) ⟨rfl, rfl, by simp [Value.oneCell']⟩ (fun k hk => hk.elim); clear hcl hM hcc hfr))
          go_roundg rest.length
          case measure => have := H7.out; simp only [List.length_cons] at this; omega
          case rel => exact ⟨dn ++ [[Value.string a, Value.string b, Value.slice A m k]], kept, mid ++ [[Value.string a, Value.string b, Value.slice A m k]], rest, x5, x8, rfl, rfl, ⟨⟨RA.out.1, RB.out.1, RB.out.2.1, RA.out.2, RB.out.2.2.1, RB.out.2.2.2, Nat.le_refl _⟩⟩, ⟨by rw [show kept ++ (mid ++ [[Value.string a, Value.string b, Value.slice A m k]]) ++ rest = kept ++ mid ++ [Value.string a, Value.string b, Value.slice A m k] :: rest from by simp]; exact HO.out⟩, ⟨HK.out⟩, ⟨HB.out⟩⟩
        | false =>
          obtain ⟨m0, mid1, rfl⟩ : ∃ m0 mid1, mid = m0 :: mid1 := by
            cases mid with
            | nil => simp at h6
            | cons m0 mid1 => exact ⟨m0, mid1, rfl⟩
          have RB := ak (show kept ++ [[Value.string a, Value.string b, Value.slice A m k]] = ((dn ++ [[Value.string a, Value.string b, Value.slice A m k]]).filter fun c => !p c) ∧ x7 = ((kept ++ [[Value.string a, Value.string b, Value.slice A m k]]).length : Int) ∧ (dn ++ [[Value.string a, Value.string b, Value.slice A m k]]).length = (kept ++ [[Value.string a, Value.string b, Value.slice A m k]]).length + (mid1 ++ [[Value.string a, Value.string b, Value.slice A m k]]).length ∧ 0 < (mid1 ++ [[Value.string a, Value.string b, Value.slice A m k]]).length from ⟨by rw [List.filter_append, ← h2]; simp [hq], by rw [List.length_append, List.length_singleton]; omega, by have l5 : dn.length = kept.length + (mid1.length + 1) := h5; rw [List.length_append, List.length_append, List.length_append, List.length_singleton]; omega, by rw [List.length_append, List.length_singleton]; omega⟩)
          have RC := ak (show ((kept ++ (m0 :: mid1) ++ ([Value.string a, Value.string b, Value.slice A m k] :: rest)).set x5.toNat [Value.string a, Value.string b, Value.slice A m k]) = (kept ++ [[Value.string a, Value.string b, Value.slice A m k]]) ++ (mid1 ++ [[Value.string a, Value.string b, Value.slice A m k]]) ++ rest from by
            rw [show x5.toNat = kept.length from by omega, List.append_assoc, List.cons_append, set_mid]
            simp)
          have HC := ak (show ∀ W, Kept w W (fun k => k = g) → Calls Try.prog 76 (#[.agg ([Value.string a, Value.string b, Value.slice A m k] : List Value).toArray] ++ cap_) W fun e W' => e = .returned (.bool false) ∧ Below W.heap.size W W' from fun W hk => by have := HP.out W _ hk HM.out; rw [hq] at this; exact this)
          clear h1 h2 h3 h4 h5 h6 h7 h8 hN hN2 hx7 hx8 hq hget hcl hcc hfr HA
          go_wp2_with (first | ((with_reducible refine gate_dst (N := 7) rfl ?_); refine bx 7 #[Value.string (⟨#[]⟩ : ByteArray), Value.string (⟨#[]⟩ : ByteArray), Value.slice none 0 0] 81 ?_; intro gb hg w1 hbox hb; have BK := ak hbox; have GE := ak (show w.heap.size ≤ gb from by rw [hg]; exact HK.out.1); have G0 := ak (show w0.heap.size ≤ gb from by rw [hg]; exact below_size HB.out); have NG := ak (show g ≠ gb from by rw [hg]; exact Nat.ne_of_lt GL.out); replace HO := ak (Kd.R_below HO.out hb); replace HK := ak (Kept.below HK.out hb); replace HB := ak (below_step HB.out hb); clear hb hbox hg; obtain ⟨hcz_0, hcz_1, hcz_2, hfz_0, hfz_1, hfz_2⟩ := cz3 BK) | (go_at_call 76; (refine (HC.out _ ?sk).mono ?_); (case sk => repeat (first | (with_reducible first | exact HK.out | apply Kept.alloc | apply Kept.drewN | apply Kept.drew | refine Kept.setCell ?_ (.inr GE.out) _) | exact HK.out)); rintro e w3 ⟨rfl, hb⟩; replace BK := ak (blk_below (blk_put (cs := #[Value.string a, Value.string b, Value.slice none 0 0]) (blk_put (cs := #[Value.string a, Value.string (⟨#[]⟩ : ByteArray), Value.slice none 0 0]) (blk_put (cs := #[Value.string (⟨#[]⟩ : ByteArray), Value.string (⟨#[]⟩ : ByteArray), Value.slice none 0 0]) BK.out 0 _ rfl) 1 _ rfl) 2 _ rfl) hb); replace HO := ak (Kd.R_below (Kd.R_far (Kd.R_far (Kd.R_far HO.out (p := ⟨gb, 0, none⟩) (fun k hk => by rw [hk]; exact NG.out) (Value.string a)) (p := ⟨gb, 1, none⟩) (fun k hk => by rw [hk]; exact NG.out) (Value.string b)) (p := ⟨gb, 2, none⟩) (fun k hk => by rw [hk]; exact NG.out) (Value.slice A m k)) hb); replace HK := ak (Kept.below (S := fun k => k = g) (by repeat (first | (with_reducible first | exact HK.out | apply Kept.alloc | apply Kept.drewN | apply Kept.drew | refine Kept.setCell ?_ (.inr GE.out) _) | exact HK.out)) hb); replace HB := ak (below_step (bl1 G0) hb); clear hb; obtain ⟨hcz_0, hcz_1, hcz_2, hfz_0, hfz_1, hfz_2⟩ := cz3 BK; obtain ⟨cc, hcl, hM, hcc, hfr⟩ := Kd.R_elem HO.out [] x5 P5.out Q5.out; obtain ⟨o0, o1, o2, rfl⟩ := cells3 hcl; have hx5_0 : w3.cell? ⟨g, x5.toNat * 3, none⟩ = some o0 := hcc 0 _ rfl; have hx5_1 : w3.cell? ⟨g, x5.toNat * 3 + 1, none⟩ = some o1 := hcc 1 _ rfl; have hx5_2 : w3.cell? ⟨g, x5.toNat * 3 + 2, none⟩ = some o2 := hcc 2 _ rfl; have hf5_0 : w3.frozen? ⟨g, x5.toNat * 3, none⟩ = false := hfr 0; have hf5_1 : w3.frozen? ⟨g, x5.toNat * 3 + 1, none⟩ = false := hfr 1; have hf5_2 : w3.frozen? ⟨g, x5.toNat * 3 + 2, none⟩ = false := hfr 2; have HS := Kd.R_seg HO.out x5 P5.out Q5.out (seg := [Value.string a, Value.string b, Value.slice A m k]) (j := 0) hcl hcc (show 0 + 3 ≤ 3 from by decide) (x' := [Value.string a, Value.string b, Value.slice A m k]) (okp := fun _ => False) ⟨rfl, rfl, by simp [Value.oneCell']⟩ (fun k hk => hk.elim); clear hcl hM hcc hfr) | ((with_reducible refine gate_store (t := 81) (p := 33) rfl ?_); refine store_event (t := 81) (p := 33) (v := ?vo_d) (w1 := (((w3.setCell ⟨g, x5.toNat * 3, none⟩ (Value.string a)).setCell ⟨g, x5.toNat * 3 + 1, none⟩ (Value.string b)).setCell ⟨g, x5.toNat * 3 + 2, none⟩ (Value.slice A m k))) ?hg ?ho ?hn ?hr ?_; (case ho => rfl); (case hg => rfl); (case hn => rfl); (case hr => first | (go_simp; done) | (go_simp; rfl)); intro w4 hw; have hg : w3.grownBy w4 (some g) := (by rw [hw]; exact HS.2); have hp_ : (Kd.raw 3).R 81 w4 w0.heap.size (fun k => k = g) (.slice (some ⟨g, 0, none⟩) n cap) ((kept ++ (m0 :: mid1) ++ ([Value.string a, Value.string b, Value.slice A m k] :: rest)).set x5.toNat [Value.string a, Value.string b, Value.slice A m k]) := (by rw [hw]; exact HS.1); clear HS; replace HK := ak (Kept.of_grown (S := fun k => k = g) hg HK.out (fun k e_ => .inl (by injection e_ with e_; exact e_.symm))); replace HB := ak (by rw [hw]; exact below_set (below_set (below_set (HB.out) GB.out) GB.out) GB.out : Below w0.heap.size w0 w4); replace HO := ak hp_; clear hg hw hp_))
          go_roundg rest.length
          case measure => have := H7.out; simp only [List.length_cons] at this; omega
          case rel => exact ⟨dn ++ [[Value.string a, Value.string b, Value.slice A m k]], kept ++ [[Value.string a, Value.string b, Value.slice A m k]], mid1 ++ [[Value.string a, Value.string b, Value.slice A m k]], rest, x7, x8, rfl, rfl, ⟨⟨RA.out.1, RB.out.1, RB.out.2.1, RA.out.2, RB.out.2.2.1, RB.out.2.2.2, Nat.le_refl _⟩⟩, ⟨by rw [← RC.out]; exact HO.out⟩, ⟨HK.out⟩, ⟨HB.out⟩⟩

end Go.Proofs.Ytplekidnlofioaa.Q
namespace Go.Proofs.Ytplekidnlofioaa.Q
open Go.RowKit Go.Proofs.YtplekidnlofioaaW.PrintWords Go.Proofs.YtplekidnlofioaaW.PrintLast Go.Proofs.YtplekidnlofioaaW.PrintMore
attribute [local go_sem] max2_int min2_int max_two min_two max_three min_three max_four min_four
set_option linter.unusedVariables false
set_option linter.unusedSimpArgs false
def OkF (f : Nat → Nat) (g b0 T1 i : Nat) : Nat → Prop := fun k => (b0 ≤ k ∧ k < T1 ∧ k ≠ g ∧ f k < i) ∨ T1 ≤ k
def PiF (f : Nat → Nat) (g b0 T1 i : Nat) : Nat → Prop := fun k => (b0 ≤ k ∧ k < T1 ∧ k ≠ g) ∧ f k = i
theorem todo_of_S2 {b0 n c : Nat} {A : Option Addr} {l : List S81} {W : World} (h : Kd.S k81 81 W b0 (fun _ => True) (.slice A n c) l) : ∃ f g, (0 < l.length → A = some ⟨g, 0, none⟩ ∧ b0 ≤ g ∧ g < W.heap.size) ∧ Todo f g b0 W.heap.size l 0 W := by
  by_cases hl : 0 < l.length
  · obtain ⟨g, cap, eo, gb, gl_, _⟩ := Kd.S_form h hl
    injection eo with e1 _ _
    subst e1
    obtain ⟨f, hT⟩ := todo_of_S h
    exact ⟨f, g, fun _ => ⟨rfl, gb, gl_⟩, hT⟩
  · exact ⟨fun _ => 0, 0, fun h => absurd h hl, fun j s _ hs => by have := (List.getElem?_eq_some_iff.1 hs).1; omega⟩
set_option maxHeartbeats 16000000 in
set_option maxRecDepth 100000 in
theorem impl_ForgetBefore_calls (A0 : Option Addr) (c0 : Nat) (l : List S81) (t : Int) (w : World) (hr0 : Kd.C k81 w A0 l.length l) (hc0 : l.length ≤ c0) (hx : l.length ≤ 1048576) (hf : ∀ s ∈ l, s.f2.length ≤ 1048576) (hfit : ∀ s ∈ l, fitS s) :
    Calls Try.prog 18 #[.slice A0 l.length c0, .int .i64 t] w fun e w' => ∃ v : Value, e = .returned (.tuple #[v, .bool (forgV t l).2]) ∧ Kd.S k81 81 w' w.heap.size (fun _ => True) v (forgV t l).1 ∧ Below w.heap.size w w' := by
  obtain ⟨k1, hk1⟩ := rounds_of (impl_StoreOk_ev l (by omega) hfit)
  obtain ⟨k2, hk2⟩ := rounds_of (impl_ownSeries_ev l hx hf)
  have K1 := ak hk1
  have K2 := ak hk2
  have HR0 := ak hr0
  have HC0 := ak hc0
  have HB := ak (Below.refl w.heap.size w)
  have HX := ak hx
  have HF := ak hf
  clear hk1 hk2 hr0 hc0 hx hf hfit
  have hmf : ∀ (fn : Fn) (first cap : Array Value) (w : World), (Instr.makeFunc fn first cap).run Try.prog w = .ok (.func fn first cap) w := fun _ _ _ _ => rfl
  cases hs : storeOk l with
  | false =>
    have ev : forgV t l = (l, false) := by unfold forgV; rw [if_neg (by rw [hs]; exact Bool.false_ne_true)]
    rw [hs] at K1
    rw [ev]
    clear ev hs
    go_enter Try.func18, Try.ntmps18
    go_wp2_with (first | ((with_reducible refine gate_dst (N := 3) rfl ?_); refine bx 3 #[.int .i64 t] 3 ?_; intro B hg w1 hbox hb; have BK := ak hbox; have GE1 := gs hg bl; replace HB := ak (below_step bl hb); clear hb hbox hg) | ((with_reducible refine gate_dst (N := 10) rfl ?_); refine gl (some 10) Try.func49 #[.slice A0 l.length c0] ?_; (refine (impl_StoreOk.calls _ _ _ l _ _ ?sa HC0.out K1.out).mono ?_); (case sa => exact cb HR0); rintro e w2 ⟨rfl, hb⟩; refine ⟨_, rfl, ?_⟩; replace HB := ak (below_step bl hb); clear hb) | ((with_reducible refine gate_dst (N := 13) rfl ?_); refine gl (some 13) Try.func65 #[.slice A0 l.length c0] ?_; (refine (impl_ownSeries.calls _ _ _ l _ _ ?sb HC0.out K2.out).mono ?_); (case sb => exact cb HR0); rintro e w3 ⟨v3, rfl, ho, hb⟩; refine ⟨_, rfl, ?_⟩; have HO := ak (Kd.S_lower ho (below_size bl)); replace HB := ak (below_step bl hb); clear hb ho))
    go_ret2
    exact ⟨_, rfl, HO.out, HB.out⟩
  | true =>
    have ev : forgV t l = (forg t l, true) := by unfold forgV; rw [if_pos hs]
    rw [hs] at K1
    rw [ev]
    clear ev hs
    go_enter Try.func18, Try.ntmps18
    go_wp2_with (first | ((with_reducible refine gate_dst (N := 3) rfl ?_); refine bx 3 #[.int .i64 t] 3 ?_; intro B hg w1 hbox hb; have BK := ak hbox; have GB1 := gs hg bl; replace HB := ak (below_step bl hb); clear hb hbox hg) | ((with_reducible refine gate_dst (N := 10) rfl ?_); refine gl (some 10) Try.func49 #[.slice A0 l.length c0] ?_; (refine (impl_StoreOk.calls _ _ _ l _ _ ?sa HC0.out K1.out).mono ?_); (case sa => exact cb HR0); rintro e w2 ⟨rfl, hb⟩; refine ⟨_, rfl, ?_⟩; replace BK := ak (blk_below BK.out hb); replace HB := ak (below_step bl hb); clear hb) | ((with_reducible refine gate_dst (N := 15) rfl ?_); refine gl (some 15) Try.func65 #[.slice A0 l.length c0] ?_; (refine (impl_ownSeries.calls _ _ _ l _ _ ?sb HC0.out K2.out).mono ?_); (case sb => exact cb HR0); rintro e w3 ⟨v3, rfl, ho, hb⟩; refine ⟨_, rfl, ?_⟩; have HBB := ak (show B < w2.heap.size from blk_lt BK.out); have HW2 := HB; replace BK := ak (blk_below BK.out hb); replace HB := ak (below_step HB.out hb); have HB2 := ak hb; have HB23 := ak hb.size; obtain ⟨A15, c15, e15⟩ := Kd.S_slice ho; subst e15; obtain ⟨f, g, hg, hT⟩ := todo_of_S2 ho; have HG := ak hg; have HT := ak hT; clear hb ho hg hT))
    go_loopg [6, 17] l.length (fun kq v6 v17 w' => ∃ (pre suf : List S81) (x17 : Int), v17 = .int .i64 x17 ∧ Aside0 (l = pre ++ suf ∧ x17 = (pre.length : Int) ∧ suf.length ≤ kq) ∧ Aside0 (Todo f g w2.heap.size w3.heap.size l pre.length w') ∧ Aside0 (Kd.S k81 81 w' w.heap.size (OkF f g w2.heap.size w3.heap.size pre.length) v6 (forg t pre)) ∧ Aside0 (w'.heap[B]? = some (.cells #[.int .i64 t] 3 (0, 0))) ∧ Aside0 (Below w.heap.size w w') ∧ Aside0 (Below w2.heap.size w2 w') ∧ Aside0 (w3.heap.size ≤ w'.heap.size))
    case atStart => exact ⟨[], l, 0, rfl, ⟨⟨rfl, rfl, Nat.le_refl _⟩⟩, HT, ⟨Kd.S_nil _ _ _ _ _⟩, BK, HB, HB2, ⟨Nat.le_refl _⟩⟩
    case round =>
      clear HT BK HB HB2
      obtain ⟨pre, suf, x17, rfl, HA, HT, HO, BK, HB, HB2, HT1⟩ := hrel
      obtain ⟨h1, h2, h3⟩ := HA.out
      cases suf with
      | nil =>
        rw [List.append_nil] at h1
        subst h1
        have c1 : decide (x17 < (l.length : Int)) = false := decide_eq_false (by omega)
        clear h2 h3
        go_wp2
        go_ret2
        exact ⟨_, rfl, Kd.S_mono HO.out (fun _ _ => trivial), HB.out⟩
      | cons s suf =>
        have h4 : l.length = pre.length + (suf.length + 1) := by rw [h1, List.length_append, List.length_cons]
        obtain ⟨eA, hg1, hg2⟩ := HG.out (by omega)
        have hls : l[pre.length]? = some s := by rw [h1]; simp
        obtain ⟨v2, q0, q1, q2, qR⟩ := HT.out pre.length s (Nat.le_refl _) hls
        obtain ⟨A2, c2, ev⟩ := Kd.R_slice qR
        subst ev
        have htn : x17.toNat = pre.length := by omega
        have hx_0 : wr.cell? ⟨g, x17.toNat * 3, none⟩ = some (.string s.f0) := by rw [htn]; exact q0
        have hx_1 : wr.cell? ⟨g, x17.toNat * 3 + 1, none⟩ = some (.string s.f1) := by rw [htn]; exact q1
        have hx_2 : wr.cell? ⟨g, x17.toNat * 3 + 2, none⟩ = some (.slice A2 s.f2.length c2) := by rw [htn]; exact q2
        have pz : 0 ≤ x17 := by omega
        have qz : x17 < (l.length : Int) := by omega
        have c1 : decide (x17 < (l.length : Int)) = true := decide_eq_true qz
        replace pz := eq_true pz
        replace qz := eq_true qz
        obtain ⟨x18, hx18⟩ : ∃ y, y = x17 + 1 := ⟨_, rfl⟩
        have hx := HX.out
        have w78 : IntKind.i64.wrap (x17 + 1) = x18 := (i64_w _).trans (by rw [hx18]; unfold wrap64; omega)
        have HN := ak (show l = (pre ++ [s]) ++ suf ∧ x18 = ((pre ++ [s]).length : Int) ∧ suf.length < gk + 1 ∧ pre.length ≤ 1048576 ∧ (pre ++ [s]).length = pre.length + 1 from ⟨by rw [h1]; simp, by rw [List.length_append, List.length_singleton]; omega, by rw [List.length_cons] at h3; omega, by omega, by simp⟩)
        have HSL := ak (HF.out s (by rw [h1]; simp))
        have HM := ak h3
        have HLS := ak hls
        have HB3 := ak (show B < w3.heap.size from Nat.lt_of_lt_of_le HBB.out HB23.out)
        have HQ := ak qR
        have G1 := ak hg1
        have G2 := ak hg2
        have HP := ak (show ∀ k, (Value.slice A2 s.f2.length c2).ownBlock = some k → PiF f g w2.heap.size w3.heap.size pre.length k from qR.1)
        have HV6 := ak (Kd.S_R HO.out).1
        subst eA
        clear q0 q1 q2 qR htn h1 h2 h3 h4 hls hx18 hx hg1 hg2 HA
        by_cases c : 0 < (cutS t s).f2.length
        · have d2_ : decide (0 < (cutS t s).f2.length) = true := decide_eq_true c
          have d3_ : decide (0 < ((cutS t s).f2.length : Int)) = true := decide_eq_true (by omega)
          have HE := ak (show forg t (pre ++ [s]) = forg t pre ++ [cutS t s] from by rw [forg_app]; simp only [forg, if_pos c])
          clear c
          go_wp2_with (first | ((with_reducible refine gate_dst (N := 8) rfl ?_); refine bx 8 #[.string (⟨#[]⟩ : ByteArray), .string (⟨#[]⟩ : ByteArray), .slice none 0 0] 81 ?_; intro gb hg w4 hbox hb; have BKb := ak hbox; have GW := ak (show w.heap.size ≤ gb from by rw [hg]; exact HB.out.size); have GW2 := ak (show w2.heap.size ≤ gb from by rw [hg]; exact HB2.out.size); have GT := ak (show w3.heap.size ≤ gb from by rw [hg]; exact HT1.out); have GS := ak (show wr.heap.size ≤ gb from by rw [hg]; exact Nat.le_refl _); have NGg := ak (show g ≠ gb from by have := G2.out; have := GT.out; omega); have NGB := ak (show B ≠ gb from by have := HBB.out; have := GW2.out; omega); replace HT := ak (todo_move (D := fun _ => False) HT.out (Kept.of_below hb _) (fun h => h) (fun k h => h.elim) (Nat.le_refl _)); replace HO := ak (Kd.S_below (Kd.S_mono (ok' := fun k => (OkF f g w2.heap.size w3.heap.size pre.length) k ∧ k < wr.heap.size) (Kd.S_bound HO.out) (fun k hk => ⟨hk.1, hk.2.2.1⟩)) hb); replace BK := ak (blk_below BK.out hb); replace HQ := ak (Kd.R_below HQ.out hb); replace HB := ak (below_step HB.out hb); replace HB2 := ak (below_step HB2.out hb); replace HT1 := ak (Nat.le_trans HT1.out hb.size); clear hb hbox hg; obtain ⟨hcz_0, hcz_1, hcz_2, hfz_0, hfz_1, hfz_2⟩ := cz3 BKb) | ((with_reducible refine gate_dst (N := 24) rfl ?_); refine gl (some 24) Try.func73 #[Value.slice A2 s.f2.length c2, .func (.func 74) #[] #[.pointer (some ⟨B, 0, none⟩)]] ?_; (refine (deleteFuncP (pF t) #[.pointer (some ⟨B, 0, none⟩)] (s.f2.map encP) (PiF f g w2.heap.size w3.heap.size pre.length) _ w2 _ ?hB ?hR ?hL ?hG ?hP).mono ?_); (case hB => exact below_set (below_set (below_set HB2.out GW2.out) GW2.out) GW2.out); (case hR => exact pts_raw (Kd.R_far (Kd.R_far (Kd.R_far HQ.out (p := ⟨gb, 0, none⟩) (fun k hk => by show k ≠ gb; have := hk.1.2.1; have := GT.out; omega) (Value.string s.f0)) (p := ⟨gb, 1, none⟩) (fun k hk => by show k ≠ gb; have := hk.1.2.1; have := GT.out; omega) (Value.string s.f1)) (p := ⟨gb, 2, none⟩) (fun k hk => by show k ≠ gb; have := hk.1.2.1; have := GT.out; omega) (Value.slice A2 s.f2.length c2))); (case hL => rw [List.length_map]; have := HSL.out; omega); (case hG => intro c hc; obtain ⟨p, _, rfl⟩ := List.mem_map.1 hc; exact ⟨p.f0, p.f1, rfl⟩); (case hP => intro W cs hk hcs; obtain ⟨p, _, rfl⟩ := List.mem_map.1 hcs; exact forget_closure t p.f0 p.f1 B W ((blk_cell (blk_kept (blk_far (blk_far (blk_far BK.out (p := ⟨gb, 0, none⟩) NGB.out (Value.string s.f0)) (p := ⟨gb, 1, none⟩) NGB.out (Value.string s.f1)) (p := ⟨gb, 2, none⟩) NGB.out (Value.slice A2 s.f2.length c2)) hk (fun e => by have := (HP.out B e.symm).1.1; have := HBB.out; omega)) 0).trans rfl)); rintro e w5 ⟨v', rfl, hR5, hob, hb5, hk5⟩; refine ⟨_, rfl, ?_⟩; rw [filt_pF] at hR5; have HR3 := ak (show Kd.R k37 37 w5 w2.heap.size (PiF f g w2.heap.size w3.heap.size pre.length) v' (cutS t s).f2 from pts_back hR5); have hkk : Kept w4 w5 (fun k => k = gb ∨ some k = (Value.slice A2 s.f2.length c2).ownBlock) := Kept.then_ (Kept.setCell (S := (fun k => k = gb ∨ some k = (Value.slice A2 s.f2.length c2).ownBlock)) (Kept.setCell (S := (fun k => k = gb ∨ some k = (Value.slice A2 s.f2.length c2).ownBlock)) (Kept.setCell (S := (fun k => k = gb ∨ some k = (Value.slice A2 s.f2.length c2).ownBlock)) (Kept.refl w4 (fun k => k = gb ∨ some k = (Value.slice A2 s.f2.length c2).ownBlock)) (p := ⟨gb, 0, none⟩) (.inl (.inl rfl)) (Value.string s.f0)) (p := ⟨gb, 1, none⟩) (.inl (.inl rfl)) (Value.string s.f1)) (p := ⟨gb, 2, none⟩) (.inl (.inl rfl)) (Value.slice A2 s.f2.length c2)) hk5 (fun k hk => .inl (.inr hk)); have hD : ∀ k, (fun k => k = gb ∨ some k = (Value.slice A2 s.f2.length c2).ownBlock) k → k = gb ∨ (PiF f g w2.heap.size w3.heap.size pre.length) k := (fun k hk => hk.imp id (fun h => HP.out k h.symm)); replace BKb := ak (blk_kept (blk_put (cs := #[Value.string s.f0, Value.string s.f1, Value.slice none 0 0]) (blk_put (cs := #[Value.string s.f0, Value.string (⟨#[]⟩ : ByteArray), Value.slice none 0 0]) (blk_put (cs := #[Value.string (⟨#[]⟩ : ByteArray), Value.string (⟨#[]⟩ : ByteArray), Value.slice none 0 0]) BKb.out 0 _ rfl) 1 _ rfl) 2 _ rfl) hk5 (fun e => by have := (HP.out gb e.symm).1.2.1; have := GT.out; omega)); replace BK := ak (blk_kept BK.out hkk (fun e => (hD B e).elim (fun h => NGB.out h) (fun h => by have := h.1.1; have := HBB.out; omega))); replace HT := ak (todo_move (i' := (pre ++ [s]).length) HT.out hkk (fun e => (hD g e).elim (fun h => NGg.out h) (fun h => h.1.2.2 rfl)) (fun k hk h1 h2 => (hD k hk).elim (fun h => by have := GT.out; omega) (fun h => by have := h.2; rw [HN.out.2.2.2.2]; omega)) (by rw [HN.out.2.2.2.2]; omega)); replace HO := ak (Kd.S_kept HO.out hkk (fun k hk hd => (hD k hd).elim (fun h => by have := hk.2; have := GS.out; omega) (fun h => hk.1.elim (fun h2 => by have := h2.2.2.2; have := h.2; omega) (fun h2 => by have := h.1.2.1; omega)))); replace HB := ak (below_step HW2.out hb5); replace HB2 := ak hb5; replace HT1 := ak (Nat.le_trans HT1.out hkk.1); clear hR5 hob hb5 hk5 hkk hD; obtain ⟨A3, c3, e3⟩ := Kd.R_slice HR3.out; subst e3; clear hcz_0 hcz_1 hcz_2 hfz_0 hfz_1 hfz_2; obtain ⟨hcz_0, hcz_1, hcz_2, hfz_0, hfz_1, hfz_2⟩ := cz3 BKb) | ((with_reducible refine gate_store (t := 31) (p := 25) rfl ?_); (refine store_event (t := 31) (p := 25) (v := ?vo_a) (w1 := (w5.setCell ⟨gb, 2, none⟩ (Value.slice A3 (cutS t s).f2.length c3))) ?hg ?ho ?hn ?hr ?_; (case ho => rfl); (case hg => rfl); (case hn => rfl); (case hr => first | (go_simp; done) | (go_simp; rfl)); intro w6 hw; replace BKb := ak (show w6.heap[gb]? = some (.cells #[Value.string s.f0, Value.string s.f1, (Value.slice A3 (cutS t s).f2.length c3)] 81 (0, 0)) from by rw [hw]; exact blk_put BKb.out 2 _ rfl); replace HT := ak (by rw [hw]; exact (todo_move (D := fun k => k = gb) HT.out (Kept.setCell (Kept.refl w5 (fun k => k = gb)) (p := ⟨gb, 2, none⟩) (.inl rfl) (Value.slice A3 (cutS t s).f2.length c3)) (fun h => NGg.out h) (fun k hk h1 h2 => by have := GT.out; omega) (Nat.le_refl _)) : Todo f g w2.heap.size w3.heap.size l (pre ++ [s]).length w6); replace HO := ak (show Kd.S k81 81 w6 w.heap.size _ u6 (forg t pre) from by rw [hw]; exact (Kd.S_far HO.out (p := ⟨gb, 2, none⟩) (fun k hk => by show k ≠ gb; have := hk.2; have := GS.out; omega) (Value.slice A3 (cutS t s).f2.length c3))); replace BK := ak (show w6.heap[B]? = some (.cells #[.int .i64 t] 3 (0, 0)) from by rw [hw]; exact (blk_far BK.out (p := ⟨gb, 2, none⟩) NGB.out (Value.slice A3 (cutS t s).f2.length c3))); replace HR3 := ak (show Kd.R k37 37 w6 w2.heap.size _ _ _ from by rw [hw]; exact (Kd.R_far HR3.out (p := ⟨gb, 2, none⟩) (fun k hk => by show k ≠ gb; have := hk.1.2.1; have := GT.out; omega) (Value.slice A3 (cutS t s).f2.length c3))); replace HB := ak (show Below w.heap.size w w6 from by rw [hw]; exact below_set HB.out GW.out); replace HB2 := ak (show Below w2.heap.size w2 w6 from by rw [hw]; exact below_set HB2.out GW2.out); replace HT1 := ak (show w3.heap.size ≤ w6.heap.size from by rw [hw]; exact (by have h_ := HT1.out; simpa [World.setCell] using h_)); clear hw hcz_0 hcz_1 hcz_2 hfz_0 hfz_1 hfz_2; obtain ⟨hcz_0, hcz_1, hcz_2, hfz_0, hfz_1, hfz_2⟩ := cz3 BKb)) | ((with_reducible refine gate_builtin (b := .append) (xs := #[.tmp 30, .tmp 32]) rfl ?_); at_builtin; refine Kd.S_append k81 (w0 := w) w.heap.size rfl (.tmp 30) (.tmp 32) 24 81 (.agg #[(.string ⟨#[]⟩), (.string ⟨#[]⟩), (.slice none 0 0)]) 56 rfl Try.underlying24 info81 rfl (by decide) (by omega) _ (forg t pre) (cutS t s) [.string s.f0, .string s.f1, .slice A3 (cutS t s).f2.length c3] (OkF f g w2.heap.size w3.heap.size (pre ++ [s]).length) (PiF f g w2.heap.size w3.heap.size pre.length) rfl rfl ?aP ?aK ?aF ?aO ?aB ?aS ?aL ?_; (case aP => exact k81_mkM _ _ _ (cutS t s) (Kd.R_lower HR3.out HW2.out.size)); (case aK => exact fun k hk => ⟨.inl ⟨hk.1.1, hk.1.2.1, hk.1.2.2, by have := hk.2; rw [HN.out.2.2.2.2]; omega⟩, fun e => (HV6.out k e.symm).elim (fun h => by have := h.2.2.2; have := hk.2; omega) (fun h => by have := hk.1.2.1; omega)⟩); (case aF => exact fun k hk => .inr (Nat.le_trans HT1.out hk)); (case aO => exact Kd.S_mono HO.out (fun k hk => ⟨hk.1.imp (fun h => ⟨h.1, h.2.1, h.2.2.1, by have := h.2.2.2; rw [HN.out.2.2.2.2]; omega⟩) id, fun h => hk.1.elim (fun h2 => by have := h2.2.2.2; have := h.2; omega) (fun h2 => by have := h.1.2.1; omega)⟩)); (case aB => exact HB.out); (case aS => exact HB.out.size); (case aL => have := HN.out.2.2.2.1; have := forg_len t pre; omega); intro v7 w7 ho hb hg hat; have hk7 := Kept.of_grown (S := fun k => some k = Value.ownBlock u6) hg (Kept.refl _ _) (fun k e => .inl e.symm); replace HT := ak (todo_move HT.out hk7 (fun e => (HV6.out g e.symm).elim (fun h => h.2.2.1 rfl) (fun h => by have := G2.out; omega)) (fun k hk h1 h2 => (HV6.out k hk.symm).elim (fun h => by have := h.2.2.2; rw [HN.out.2.2.2.2]; omega) (fun h => by omega)) (Nat.le_refl _)); replace BK := ak (blk_kept BK.out hk7 (fun e => (HV6.out B e.symm).elim (fun h => by have := h.1; have := HBB.out; omega) (fun h => by have := HB3.out; omega))); replace HO := ak ho; replace HB := ak hb; replace HB2 := ak (Below.grown HB2.out hg HB2.out.size (fun k e => (HV6.out k e).elim (fun h => h.1) (fun h => Nat.le_trans HB23.out h))); replace HT1 := ak (Nat.le_trans HT1.out hk7.1); clear ho hb hg hat hk7))
          go_roundg suf.length
          case measure => have := HM.out; simp only [List.length_cons] at this; omega
          case rel => exact ⟨pre ++ [s], suf, x18, rfl, ⟨⟨HN.out.1, HN.out.2.1, Nat.le_refl _⟩⟩, HT, ⟨by rw [HE.out]; exact HO.out⟩, BK, HB, HB2, HT1⟩
        · have d2_ : decide (0 < (cutS t s).f2.length) = false := decide_eq_false c
          have d3_ : decide (0 < ((cutS t s).f2.length : Int)) = false := decide_eq_false (by omega)
          have HE := ak (show forg t (pre ++ [s]) = forg t pre from by rw [forg_app]; simp only [forg, if_neg c, List.append_nil])
          clear c
          go_wp2_with (first | ((with_reducible refine gate_dst (N := 8) rfl ?_); refine bx 8 #[.string (⟨#[]⟩ : ByteArray), .string (⟨#[]⟩ : ByteArray), .slice none 0 0] 81 ?_; intro gb hg w4 hbox hb; have BKb := ak hbox; have GW := ak (show w.heap.size ≤ gb from by rw [hg]; exact HB.out.size); have GW2 := ak (show w2.heap.size ≤ gb from by rw [hg]; exact HB2.out.size); have GT := ak (show w3.heap.size ≤ gb from by rw [hg]; exact HT1.out); have GS := ak (show wr.heap.size ≤ gb from by rw [hg]; exact Nat.le_refl _); have NGg := ak (show g ≠ gb from by have := G2.out; have := GT.out; omega); have NGB := ak (show B ≠ gb from by have := HBB.out; have := GW2.out; omega); replace HT := ak (todo_move (D := fun _ => False) HT.out (Kept.of_below hb _) (fun h => h) (fun k h => h.elim) (Nat.le_refl _)); replace HO := ak (Kd.S_below (Kd.S_mono (ok' := fun k => (OkF f g w2.heap.size w3.heap.size pre.length) k ∧ k < wr.heap.size) (Kd.S_bound HO.out) (fun k hk => ⟨hk.1, hk.2.2.1⟩)) hb); replace BK := ak (blk_below BK.out hb); replace HQ := ak (Kd.R_below HQ.out hb); replace HB := ak (below_step HB.out hb); replace HB2 := ak (below_step HB2.out hb); replace HT1 := ak (Nat.le_trans HT1.out hb.size); clear hb hbox hg; obtain ⟨hcz_0, hcz_1, hcz_2, hfz_0, hfz_1, hfz_2⟩ := cz3 BKb) | ((with_reducible refine gate_dst (N := 24) rfl ?_); refine gl (some 24) Try.func73 #[Value.slice A2 s.f2.length c2, .func (.func 74) #[] #[.pointer (some ⟨B, 0, none⟩)]] ?_; (refine (deleteFuncP (pF t) #[.pointer (some ⟨B, 0, none⟩)] (s.f2.map encP) (PiF f g w2.heap.size w3.heap.size pre.length) _ w2 _ ?hB ?hR ?hL ?hG ?hP).mono ?_); (case hB => exact below_set (below_set (below_set HB2.out GW2.out) GW2.out) GW2.out); (case hR => exact pts_raw (Kd.R_far (Kd.R_far (Kd.R_far HQ.out (p := ⟨gb, 0, none⟩) (fun k hk => by show k ≠ gb; have := hk.1.2.1; have := GT.out; omega) (Value.string s.f0)) (p := ⟨gb, 1, none⟩) (fun k hk => by show k ≠ gb; have := hk.1.2.1; have := GT.out; omega) (Value.string s.f1)) (p := ⟨gb, 2, none⟩) (fun k hk => by show k ≠ gb; have := hk.1.2.1; have := GT.out; omega) (Value.slice A2 s.f2.length c2))); (case hL => rw [List.length_map]; have := HSL.out; omega); (case hG => intro c hc; obtain ⟨p, _, rfl⟩ := List.mem_map.1 hc; exact ⟨p.f0, p.f1, rfl⟩); (case hP => intro W cs hk hcs; obtain ⟨p, _, rfl⟩ := List.mem_map.1 hcs; exact forget_closure t p.f0 p.f1 B W ((blk_cell (blk_kept (blk_far (blk_far (blk_far BK.out (p := ⟨gb, 0, none⟩) NGB.out (Value.string s.f0)) (p := ⟨gb, 1, none⟩) NGB.out (Value.string s.f1)) (p := ⟨gb, 2, none⟩) NGB.out (Value.slice A2 s.f2.length c2)) hk (fun e => by have := (HP.out B e.symm).1.1; have := HBB.out; omega)) 0).trans rfl)); rintro e w5 ⟨v', rfl, hR5, hob, hb5, hk5⟩; refine ⟨_, rfl, ?_⟩; rw [filt_pF] at hR5; have HR3 := ak (show Kd.R k37 37 w5 w2.heap.size (PiF f g w2.heap.size w3.heap.size pre.length) v' (cutS t s).f2 from pts_back hR5); have hkk : Kept w4 w5 (fun k => k = gb ∨ some k = (Value.slice A2 s.f2.length c2).ownBlock) := Kept.then_ (Kept.setCell (S := (fun k => k = gb ∨ some k = (Value.slice A2 s.f2.length c2).ownBlock)) (Kept.setCell (S := (fun k => k = gb ∨ some k = (Value.slice A2 s.f2.length c2).ownBlock)) (Kept.setCell (S := (fun k => k = gb ∨ some k = (Value.slice A2 s.f2.length c2).ownBlock)) (Kept.refl w4 (fun k => k = gb ∨ some k = (Value.slice A2 s.f2.length c2).ownBlock)) (p := ⟨gb, 0, none⟩) (.inl (.inl rfl)) (Value.string s.f0)) (p := ⟨gb, 1, none⟩) (.inl (.inl rfl)) (Value.string s.f1)) (p := ⟨gb, 2, none⟩) (.inl (.inl rfl)) (Value.slice A2 s.f2.length c2)) hk5 (fun k hk => .inl (.inr hk)); have hD : ∀ k, (fun k => k = gb ∨ some k = (Value.slice A2 s.f2.length c2).ownBlock) k → k = gb ∨ (PiF f g w2.heap.size w3.heap.size pre.length) k := (fun k hk => hk.imp id (fun h => HP.out k h.symm)); replace BKb := ak (blk_kept (blk_put (cs := #[Value.string s.f0, Value.string s.f1, Value.slice none 0 0]) (blk_put (cs := #[Value.string s.f0, Value.string (⟨#[]⟩ : ByteArray), Value.slice none 0 0]) (blk_put (cs := #[Value.string (⟨#[]⟩ : ByteArray), Value.string (⟨#[]⟩ : ByteArray), Value.slice none 0 0]) BKb.out 0 _ rfl) 1 _ rfl) 2 _ rfl) hk5 (fun e => by have := (HP.out gb e.symm).1.2.1; have := GT.out; omega)); replace BK := ak (blk_kept BK.out hkk (fun e => (hD B e).elim (fun h => NGB.out h) (fun h => by have := h.1.1; have := HBB.out; omega))); replace HT := ak (todo_move (i' := (pre ++ [s]).length) HT.out hkk (fun e => (hD g e).elim (fun h => NGg.out h) (fun h => h.1.2.2 rfl)) (fun k hk h1 h2 => (hD k hk).elim (fun h => by have := GT.out; omega) (fun h => by have := h.2; rw [HN.out.2.2.2.2]; omega)) (by rw [HN.out.2.2.2.2]; omega)); replace HO := ak (Kd.S_kept HO.out hkk (fun k hk hd => (hD k hd).elim (fun h => by have := hk.2; have := GS.out; omega) (fun h => hk.1.elim (fun h2 => by have := h2.2.2.2; have := h.2; omega) (fun h2 => by have := h.1.2.1; omega)))); replace HB := ak (below_step HW2.out hb5); replace HB2 := ak hb5; replace HT1 := ak (Nat.le_trans HT1.out hkk.1); clear hR5 hob hb5 hk5 hkk hD; obtain ⟨A3, c3, e3⟩ := Kd.R_slice HR3.out; subst e3; clear hcz_0 hcz_1 hcz_2 hfz_0 hfz_1 hfz_2; obtain ⟨hcz_0, hcz_1, hcz_2, hfz_0, hfz_1, hfz_2⟩ := cz3 BKb) | ((with_reducible refine gate_store (t := 31) (p := 25) rfl ?_); (refine store_event (t := 31) (p := 25) (v := ?vo_b) (w1 := (w5.setCell ⟨gb, 2, none⟩ (Value.slice A3 (cutS t s).f2.length c3))) ?hg ?ho ?hn ?hr ?_; (case ho => rfl); (case hg => rfl); (case hn => rfl); (case hr => first | (go_simp; done) | (go_simp; rfl)); intro w6 hw; replace BKb := ak (show w6.heap[gb]? = some (.cells #[Value.string s.f0, Value.string s.f1, (Value.slice A3 (cutS t s).f2.length c3)] 81 (0, 0)) from by rw [hw]; exact blk_put BKb.out 2 _ rfl); replace HT := ak (by rw [hw]; exact (todo_move (D := fun k => k = gb) HT.out (Kept.setCell (Kept.refl w5 (fun k => k = gb)) (p := ⟨gb, 2, none⟩) (.inl rfl) (Value.slice A3 (cutS t s).f2.length c3)) (fun h => NGg.out h) (fun k hk h1 h2 => by have := GT.out; omega) (Nat.le_refl _)) : Todo f g w2.heap.size w3.heap.size l (pre ++ [s]).length w6); replace HO := ak (show Kd.S k81 81 w6 w.heap.size _ u6 (forg t pre) from by rw [hw]; exact (Kd.S_far HO.out (p := ⟨gb, 2, none⟩) (fun k hk => by show k ≠ gb; have := hk.2; have := GS.out; omega) (Value.slice A3 (cutS t s).f2.length c3))); replace BK := ak (show w6.heap[B]? = some (.cells #[.int .i64 t] 3 (0, 0)) from by rw [hw]; exact (blk_far BK.out (p := ⟨gb, 2, none⟩) NGB.out (Value.slice A3 (cutS t s).f2.length c3))); replace HR3 := ak (show Kd.R k37 37 w6 w2.heap.size _ _ _ from by rw [hw]; exact (Kd.R_far HR3.out (p := ⟨gb, 2, none⟩) (fun k hk => by show k ≠ gb; have := hk.1.2.1; have := GT.out; omega) (Value.slice A3 (cutS t s).f2.length c3))); replace HB := ak (show Below w.heap.size w w6 from by rw [hw]; exact below_set HB.out GW.out); replace HB2 := ak (show Below w2.heap.size w2 w6 from by rw [hw]; exact below_set HB2.out GW2.out); replace HT1 := ak (show w3.heap.size ≤ w6.heap.size from by rw [hw]; exact (by have h_ := HT1.out; simpa [World.setCell] using h_)); clear hw hcz_0 hcz_1 hcz_2 hfz_0 hfz_1 hfz_2; obtain ⟨hcz_0, hcz_1, hcz_2, hfz_0, hfz_1, hfz_2⟩ := cz3 BKb)))
          go_roundg suf.length
          case measure => have := HM.out; simp only [List.length_cons] at this; omega
          case rel => exact ⟨pre ++ [s], suf, x18, rfl, ⟨⟨HN.out.1, HN.out.2.1, Nat.le_refl _⟩⟩, HT, ⟨by rw [HE.out]; exact Kd.S_mono HO.out (fun k hk => hk.1.imp (fun h => ⟨h.1, h.2.1, h.2.2.1, by have := h.2.2.2; rw [HN.out.2.2.2.2]; omega⟩) id)⟩, BK, HB, HB2, HT1⟩
theorem forg_mkN (t : Int) : ∀ l : List S81, mkN (forg t l) ≤ mkN l
  | [] => Int.le_refl _
  | x :: r => by
    have hr := forg_mkN t r
    have hx : ((cutS t x).f2.length : Int) ≤ x.f2.length := Int.ofNat_le.2 (List.length_filter_le _ _)
    simp only [forg]
    split <;> simp only [mkN] <;> omega
theorem forgV_mkN (t : Int) (l : List S81) : mkN (forgV t l).1 ≤ mkN l := by
  unfold forgV
  split
  · exact forg_mkN t l
  · exact Int.le_refl _
end Go.Proofs.Ytplekidnlofioaa.Q
namespace Go.Proofs.Ytplekidnlofioaa.Q
open Go.RowKit Go.Proofs.YtplekidnlofioaaW.PrintWords Go.Proofs.YtplekidnlofioaaW.PrintLast Go.Proofs.YtplekidnlofioaaW.PrintMore
attribute [local go_sem] max2_int min2_int max_two min_two max_three min_three max_four min_four
set_option linter.unusedVariables false
set_option linter.unusedSimpArgs false
/-- The cells of an element, and what its points' row is. -/
def CellS (W : World) (b : Nat) (ok : Nat → Prop) (s : S81) (c : List Value) : Prop := ∃ A m n, c = [Value.string s.f0, Value.string s.f1, Value.slice A m n] ∧ Kd.R k37 37 W b ok (Value.slice A m n) s.f2
/-- A row of rows as cells, each element with its owner. -/
theorem S_split {b : Nat} {W : World} {v : Value} {l : List S81} (h : Kd.S k81 81 W b (fun _ => True) v l) : ∃ (f : Nat → Nat) (Z : List (S81 × List Value × Nat)), Z.map (·.1) = l ∧ (Z.map (·.2.2)).Nodup ∧ (Kd.raw 3).R 81 W b (fun k => some k = v.ownBlock) v (Z.map (·.2.1)) ∧
    ∀ z ∈ Z, CellS W b (fun k => some k ≠ v.ownBlock ∧ f k = z.2.2) z.1 z.2.1 := by
  obtain ⟨f, h0, inner, ho, hr⟩ := h
  rw [List.length_zipIdx] at ho
  have hlen : inner.length = l.length * 3 := by have := hr.1; rw [List.length_zipIdx] at this; exact this
  have e1 : (l.zipIdx.map fun p => (p.1, (inner.drop (p.2 * 3)).take 3, p.2)).map (·.1) = l := by rw [List.map_map]; exact List.zipIdx_map_fst 0 l
  have e2 : (l.zipIdx.map fun p => (p.1, (inner.drop (p.2 * 3)).take 3, p.2)).map (·.2.2) = List.range l.length := by
    rw [List.map_map]
    show l.zipIdx.map Prod.snd = _
    rw [List.zipIdx_map_snd, List.range_eq_range']
  have hM : ∀ j s, l[j]? = some s → k81.M W b (fun k => (True ∧ some k ≠ v.ownBlock) ∧ f k = j) s ((inner.drop (j * 3)).take 3) := fun j s hs => hr.2 j (s, j) (Kd.zip_at hs)
  refine ⟨f, l.zipIdx.map fun p => (p.1, (inner.drop (p.2 * 3)).take 3, p.2), e1, by rw [e2]; exact List.nodup_range, ⟨fun k hk => hk.symm, inner, by rw [List.length_map, List.length_map, List.length_zipIdx]; exact ho, by rw [List.length_map, List.length_map, List.length_zipIdx]; exact hlen, fun j c hj => ?_⟩, fun z hz => ?_⟩
  · rw [List.map_map, List.getElem?_map] at hj
    obtain ⟨p, hp, rfl⟩ := Option.map_eq_some_iff.1 hj
    rw [List.getElem?_zipIdx, Nat.zero_add] at hp
    obtain ⟨s, hs, rfl⟩ := Option.map_eq_some_iff.1 hp
    obtain ⟨v2, hc, hR⟩ := k81_openM (hM j s hs)
    obtain ⟨A, n, rfl⟩ := Kd.R_slice hR
    show (inner.drop (j * 3)).take 3 = (inner.drop (j * 3)).take 3 ∧ ((inner.drop (j * 3)).take 3).length = 3 ∧ ∀ u ∈ (inner.drop (j * 3)).take 3, u.oneCell' = true
    rw [hc]
    refine ⟨rfl, rfl, fun u hu => ?_⟩
    simp only [List.mem_cons, List.not_mem_nil, or_false] at hu
    rcases hu with rfl | rfl | rfl <;> rfl
  · obtain ⟨p, hp, rfl⟩ := List.mem_map.1 hz
    obtain ⟨s, j⟩ := p
    have hs : l[j]? = some s := by
      exact List.mem_zipIdx_iff_getElem?.1 hp
    obtain ⟨v2, hc, hR⟩ := k81_openM (hM j s hs)
    obtain ⟨A, n, rfl⟩ := Kd.R_slice hR
    exact ⟨A, _, n, hc, Kd.R_mono hR (fun k hk => ⟨hk.1.2, hk.2⟩)⟩
/-- Back again, for any of the elements. -/
theorem S_join {b : Nat} {W : World} {v : Value} {ok : Nat → Prop} (f : Nat → Nat) (Z : List (S81 × List Value × Nat)) (hn : (Z.map (·.2.2)).Nodup) (hR : (Kd.raw 3).R 81 W b ok v (Z.map (·.2.1)))
    (hC : ∀ z ∈ Z, CellS W b (fun k => (ok k ∧ some k ≠ v.ownBlock) ∧ f k = z.2.2) z.1 z.2.1) : Kd.S k81 81 W b ok v (Z.map (·.1)) := by
  obtain ⟨h0, inner, ho, hr⟩ := hR
  rw [List.length_map] at ho
  refine ⟨fun k => (Z.map (·.2.2)).idxOf (f k), h0, inner, by rw [List.length_zipIdx, List.length_map]; exact ho, by have := hr.1; rw [List.length_map] at this; rw [List.length_zipIdx, List.length_map]; exact this, fun j p hj => ?_⟩
  rw [List.getElem?_zipIdx, Nat.zero_add, List.getElem?_map] at hj
  obtain ⟨s, hs, rfl⟩ := Option.map_eq_some_iff.1 hj
  obtain ⟨z, hz, rfl⟩ := Option.map_eq_some_iff.1 hs
  have hc := (hr.2 j z.2.1 (by rw [List.getElem?_map, hz]; rfl)).1
  obtain ⟨A, m, n, e, hP⟩ := hC z (List.mem_of_getElem? hz)
  have hlt : j < (Z.map (·.2.2)).length := by rw [List.length_map]; exact (List.getElem?_eq_some_iff.1 hz).1
  have hj2 : (Z.map (·.2.2))[j] = z.2.2 := by rw [List.getElem_map]; congr 2; exact (List.getElem?_eq_some_iff.1 hz).2
  have hidx : (Z.map (·.2.2)).idxOf z.2.2 = j := by rw [← hj2]; exact hn.idxOf_getElem j hlt
  show k81.M W b (fun k => (ok k ∧ some k ≠ v.ownBlock) ∧ (Z.map (·.2.2)).idxOf (f k) = j) z.1 ((inner.drop (j * 3)).take 3)
  rw [show (inner.drop (j * 3)).take 3 = z.2.1 from hc, e]
  exact k81_mkM _ _ _ z.1 (Kd.R_mono hP (fun k hk => ⟨hk.1, by rw [hk.2]; exact hidx⟩))
/-- The closure's test, by cells. -/
def pK (pods : List ByteArray) : List Value → Bool
  | Value.string a :: _ => !inP pods a
  | _ => false
set_option maxHeartbeats 4000000 in
theorem keep_closure (pods : List ByteArray) (hp : pods.length ≤ 1048576) (a b : ByteArray) (A : Option Addr) (m n : Nat) (B : Nat) (Ap : Option Addr) (np : Nat) (W : World) (hc : W.cell? ⟨B, 0, none⟩ = some (.slice Ap pods.length np)) (hr : Kd.C Kd.string W Ap pods.length pods) (hn : pods.length ≤ np) :
    Calls Try.prog 76 (#[.agg ([Value.string a, Value.string b, Value.slice A m n] : List Value).toArray] ++ #[.pointer (some ⟨B, 0, none⟩)]) W fun e W' => e = .returned (.bool (!inP pods a)) ∧ Below W.heap.size W W' := by
  have hB : B < W.heap.size := World.block_lt_of_cell? W _ hc
  obtain ⟨k, hk⟩ := rounds_of (contains_ev pods a hp)
  have HK_ := ak hk
  have HR := ak hr
  have HN := ak hn
  have HC_ := ak hc
  have HB := ak (Below.refl W.heap.size W)
  show Calls Try.prog 76 #[.agg #[.string a, .string b, .slice A m n], .pointer (some ⟨B, 0, none⟩)] W _
  clear hk hr hn hc
  go_enter Try.func76, Try.ntmps76
  go_wp2_with (first | ((with_reducible refine gate_dst (N := 2) rfl ?_); refine bx 2 #[.string a, .string b, .slice A m n] 81 ?_; intro gb hg w1 hbox hb; have BK := ak hbox; have hcB := (hb.cell (p := ⟨B, 0, none⟩) hB).trans HC_.out; replace HB := ak hb; replace HR := ak (Kd.C_below HR.out hb); clear hb hbox hg; obtain ⟨hcz_0, hcz_1, hcz_2, hfz_0, hfz_1, hfz_2⟩ := cz3 BK) | ((with_reducible refine gate_dst (N := 7) rfl ?_); refine gl (some 7) Try.func77 #[.slice Ap pods.length np, .string a] ?_; (refine (slices_Contains_string_string.calls k _ _ pods a _ _ ?sa HN.out HK_.out).mono ?_); (case sa => exact HR.out); rintro e w2 ⟨rfl, ⟨nd, rfl⟩⟩; refine ⟨_, rfl, ?_⟩))
  go_ret
  exact ⟨rfl, pw_below_drewN HB.out _⟩
theorem pK_keep (pods : List ByteArray) (Z : List (S81 × List Value × Nat)) (hZ : ∀ z ∈ Z, ∃ A m n, z.2.1 = [Value.string z.1.f0, Value.string z.1.f1, Value.slice A m n]) :
    ((Z.map (·.2.1)).filter fun c => !pK pods c) = (Z.filter fun z => inP pods z.1.f0).map (·.2.1) ∧ (Z.filter fun z => inP pods z.1.f0).map (·.1) = (Z.map (·.1)).filter fun s => inP pods s.f0 := by
  refine ⟨?_, by rw [List.filter_map]; rfl⟩
  rw [List.filter_map]
  congr 1
  apply List.filter_congr
  intro z hz
  obtain ⟨A, m, n, e⟩ := hZ z hz
  show (!pK pods z.2.1) = _
  rw [e]
  simp [pK]
theorem keep_join {b : Nat} {W W' : World} {v v' : Value} {l : List S81} (pods : List ByteArray) (f : Nat → Nat) (Z : List (S81 × List Value × Nat)) (hn : (Z.map (·.2.2)).Nodup) (hl : Z.map (·.1) = l)
    (hC : ∀ z ∈ Z, CellS W b (fun k => some k ≠ v.ownBlock ∧ f k = z.2.2) z.1 z.2.1) (hR : (Kd.raw 3).R 81 W' b (fun _ => True) v' ((Z.map (·.2.1)).filter fun c => !pK pods c)) (ho : v'.ownBlock = v.ownBlock) (hk : Kept W W' (fun k => some k = v.ownBlock)) :
    Kd.S k81 81 W' b (fun _ => True) v' (l.filter fun s => inP pods s.f0) := by
  obtain ⟨e1, e2⟩ := pK_keep pods Z (fun z hz => by obtain ⟨A, m, n, e, _⟩ := hC z hz; exact ⟨A, m, n, e⟩)
  rw [e1] at hR
  rw [← hl, ← e2]
  refine S_join f _ (List.Nodup.sublist (List.Sublist.map _ List.filter_sublist) hn) hR (fun z hz => ?_)
  obtain ⟨A, m, n, e, hP⟩ := hC z (List.mem_filter.1 hz).1
  exact ⟨A, m, n, e, Kd.R_mono (Kd.R_kept hP hk (fun k h1 h2 => h1.1 h2)) (fun k h => ⟨⟨trivial, by rw [ho]; exact h.1⟩, h.2⟩)⟩
set_option maxHeartbeats 16000000 in
set_option maxRecDepth 100000 in
theorem impl_KeepPods_calls (A0 : Option Addr) (c0 : Nat) (l : List S81) (Ap : Option Addr) (np : Nat) (pods : List ByteArray) (w : World) (hr0 : Kd.C k81 w A0 l.length l) (hc0 : l.length ≤ c0) (hrp : Kd.C Kd.string w Ap pods.length pods) (hcp : pods.length ≤ np) (hxp : pods.length ≤ 1048576)
    (hx : l.length ≤ 1048576) (hf : ∀ s ∈ l, s.f2.length ≤ 1048576) (hfit : ∀ s ∈ l, fitS s) :
    Calls Try.prog 19 #[.slice A0 l.length c0, .slice Ap pods.length np] w fun e w' => ∃ v : Value, e = .returned (.tuple #[v, .bool (keepV pods l).2]) ∧ Kd.S k81 81 w' w.heap.size (fun _ => True) v (keepV pods l).1 ∧ Below w.heap.size w w' := by
  obtain ⟨k1, hk1⟩ := rounds_of (impl_StoreOk_ev l (by omega) hfit)
  obtain ⟨k2, hk2⟩ := rounds_of (impl_ownSeries_ev l hx hf)
  have K1 := ak hk1
  have K2 := ak hk2
  have HR0 := ak hr0
  have HC0 := ak hc0
  have HRP := ak hrp
  have HCP := ak hcp
  have HB := ak (Below.refl w.heap.size w)
  have HX := ak hx
  have HXp := ak hxp
  clear hk1 hk2 hr0 hc0 hrp hcp hf hfit
  have hmf : ∀ (fn : Fn) (first cap : Array Value) (w : World), (Instr.makeFunc fn first cap).run Try.prog w = .ok (.func fn first cap) w := fun _ _ _ _ => rfl
  cases hs : storeOk l with
  | false =>
    have ev : keepV pods l = (l, false) := by unfold keepV; rw [if_neg (by rw [hs]; exact fun h => Bool.false_ne_true h.1)]
    rw [hs] at K1
    rw [ev]
    clear ev hs hx hxp
    go_enter Try.func19, Try.ntmps19
    go_wp2_with (first | ((with_reducible refine gate_dst (N := 3) rfl ?_); refine bx 3 #[.slice Ap pods.length np] 49 ?_; intro B hg w1 hbox hb; have BK := ak hbox; have GB1 := gs hg bl; replace HB := ak (below_step HB.out hb); clear hb hbox hg) | ((with_reducible refine gate_dst (N := 7) rfl ?_); refine gl (some 7) Try.func49 #[.slice A0 l.length c0] ?_; (refine (impl_StoreOk.calls _ _ _ l _ _ ?sa HC0.out K1.out).mono ?_); (case sa => exact cb HR0); rintro e w2 ⟨rfl, hb⟩; refine ⟨_, rfl, ?_⟩; replace BK := ak (blk_below BK.out hb); replace HB := ak (below_step HB.out hb); clear hb; obtain ⟨hcz_0, hfz_0⟩ := cz1 BK) | ((with_reducible refine gate_dst (N := 15) rfl ?_); refine gl (some 15) Try.func65 #[.slice A0 l.length c0] ?_; (refine (impl_ownSeries.calls _ _ _ l _ _ ?sb HC0.out K2.out).mono ?_); (case sb => exact cb HR0); rintro e w3 ⟨v3, rfl, ho, hb⟩; refine ⟨_, rfl, ?_⟩; have HO := ak (Kd.S_lower ho (below_size HB.out)); replace HB := ak (below_step HB.out hb); clear hb ho))
    go_ret2
    exact ⟨_, rfl, HO.out, HB.out⟩
  | true =>
    by_cases c : pods.length ≤ 300
    · have ev : keepV pods l = (l.filter (fun s => inP pods s.f0), true) := by unfold keepV; rw [if_pos ⟨hs, c⟩]
      rw [hs] at K1
      rw [ev]
      have d2_ : decide (300 < pods.length) = false := decide_eq_false (by omega)
      have d3_ : decide (300 < (pods.length : Int)) = false := decide_eq_false (by omega)
      clear ev hs hx hxp c
      go_enter Try.func19, Try.ntmps19
      go_wp2_with (first | ((with_reducible refine gate_dst (N := 3) rfl ?_); refine bx 3 #[.slice Ap pods.length np] 49 ?_; intro B hg w1 hbox hb; have BK := ak hbox; have GB1 := gs hg bl; replace HB := ak (below_step HB.out hb); clear hb hbox hg) | ((with_reducible refine gate_dst (N := 7) rfl ?_); refine gl (some 7) Try.func49 #[.slice A0 l.length c0] ?_; (refine (impl_StoreOk.calls _ _ _ l _ _ ?sa HC0.out K1.out).mono ?_); (case sa => exact cb HR0); rintro e w2 ⟨rfl, hb⟩; refine ⟨_, rfl, ?_⟩; replace BK := ak (blk_below BK.out hb); replace HB := ak (below_step HB.out hb); clear hb; obtain ⟨hcz_0, hfz_0⟩ := cz1 BK) | ((with_reducible refine gate_dst (N := 17) rfl ?_); refine gl (some 17) Try.func65 #[.slice A0 l.length c0] ?_; (refine (impl_ownSeries.calls _ _ _ l _ _ ?sb HC0.out K2.out).mono ?_); (case sb => exact cb HR0); rintro e w3 ⟨v3, rfl, ho, hb⟩; refine ⟨_, rfl, ?_⟩; have HBB := ak (show B < w2.heap.size from blk_lt BK.out); have HW2 := HB; replace BK := ak (blk_below BK.out hb); replace HB := ak (below_step HB.out hb); have HB2 := ak hb; obtain ⟨f, Z, hZ1, hZn, hZR, hZC⟩ := S_split ho; have Z1 := ak hZ1; have Zn := ak hZn; have ZR := ak hZR; have ZC := ak hZC; have HV := ak (Kd.S_R ho).1; have HVb := ak (Kd.R_base (Kd.S_R ho)); clear hb ho hZ1 hZn hZR hZC hcz_0 hfz_0; obtain ⟨hcz_0, hfz_0⟩ := cz1 BK) | ((with_reducible refine gate_dst (N := 19) rfl ?_); refine gl (some 19) Try.func75 #[v3, .func (.func 76) #[] #[.pointer (some ⟨B, 0, none⟩)]] ?_; (refine (deleteFuncS (pK pods) #[.pointer (some ⟨B, 0, none⟩)] (Z.map (·.2.1)) (fun _ => True) v3 w2 _ HB2.out ?hR ?hL ?hG ?hP).mono ?_); (case hR => exact Kd.R_mono ZR.out (fun _ _ => trivial)); (case hL => rw [List.length_map]; have h_ := congrArg List.length Z1.out; rw [List.length_map] at h_; have := HX.out; omega); (case hG => intro c hc; obtain ⟨z, hz, rfl⟩ := List.mem_map.1 hc; obtain ⟨A, m, n, e, _⟩ := ZC.out z hz; exact ⟨_, _, A, m, n, e⟩); (case hP => intro W cs hk hcs; obtain ⟨z, hz, rfl⟩ := List.mem_map.1 hcs; obtain ⟨A, m, n, e, _⟩ := ZC.out z hz; rw [e]; exact keep_closure pods HXp.out z.1.f0 z.1.f1 A m n B Ap np W ((blk_cell (blk_kept BK.out hk (fun e => by have := HVb.out B e.symm; have := HBB.out; omega)) 0).trans rfl) (Kd.C_kept_came Kd.heap_string HRP.out HB.out (fun k e => Nat.le_trans HW2.out.size (HVb.out k e.symm)) W hk) HCP.out); rintro e w4 ⟨v', rfl, hR5, hob, hb5, hk5⟩; refine ⟨_, rfl, ?_⟩; have HO := ak (keep_join (b := w2.heap.size) pods f Z Zn.out Z1.out ZC.out hR5 hob hk5); replace HB := ak (below_step HW2.out hb5); clear hR5 hob hb5 hk5))
      go_ret2
      exact ⟨_, rfl, Kd.S_lower HO.out HW2.out.size, HB.out⟩
    · have ev : keepV pods l = (l, false) := by unfold keepV; rw [if_neg (fun h => c h.2)]
      rw [hs] at K1
      rw [ev]
      have d2_ : decide (300 < pods.length) = true := decide_eq_true (by omega)
      have d3_ : decide (300 < (pods.length : Int)) = true := decide_eq_true (by omega)
      clear ev hs hx hxp c
      go_enter Try.func19, Try.ntmps19
      go_wp2_with (first | ((with_reducible refine gate_dst (N := 3) rfl ?_); refine bx 3 #[.slice Ap pods.length np] 49 ?_; intro B hg w1 hbox hb; have BK := ak hbox; have GB1 := gs hg bl; replace HB := ak (below_step HB.out hb); clear hb hbox hg) | ((with_reducible refine gate_dst (N := 7) rfl ?_); refine gl (some 7) Try.func49 #[.slice A0 l.length c0] ?_; (refine (impl_StoreOk.calls _ _ _ l _ _ ?sa HC0.out K1.out).mono ?_); (case sa => exact cb HR0); rintro e w2 ⟨rfl, hb⟩; refine ⟨_, rfl, ?_⟩; replace BK := ak (blk_below BK.out hb); replace HB := ak (below_step HB.out hb); clear hb; obtain ⟨hcz_0, hfz_0⟩ := cz1 BK) | ((with_reducible refine gate_dst (N := 15) rfl ?_); refine gl (some 15) Try.func65 #[.slice A0 l.length c0] ?_; (refine (impl_ownSeries.calls _ _ _ l _ _ ?sb HC0.out K2.out).mono ?_); (case sb => exact cb HR0); rintro e w3 ⟨v3, rfl, ho, hb⟩; refine ⟨_, rfl, ?_⟩; have HO := ak (Kd.S_lower ho (below_size HB.out)); replace HB := ak (below_step HB.out hb); clear hb ho))
      go_ret2
      exact ⟨_, rfl, HO.out, HB.out⟩
theorem mkN_filter (q : S81 → Bool) : ∀ l : List S81, mkN (l.filter q) ≤ mkN l
  | [] => Int.le_refl _
  | x :: r => by
    have hr := mkN_filter q r
    rw [List.filter_cons]
    split <;> simp only [mkN] <;> omega
theorem keepV_len (pods : List ByteArray) (l : List S81) : (keepV pods l).1.length ≤ l.length := by
  unfold keepV
  split
  · exact List.length_filter_le _ _
  · exact Nat.le_refl _
theorem keepV_pts {n : Nat} (pods : List ByteArray) (l : List S81) (h : ∀ s ∈ l, s.f2.length ≤ n) : ∀ s ∈ (keepV pods l).1, s.f2.length ≤ n := by
  unfold keepV
  split
  · exact fun s hs => h s (List.mem_filter.1 hs).1
  · exact h
theorem keepV_mkN (pods : List ByteArray) (l : List S81) : mkN (keepV pods l).1 ≤ mkN l := by
  unfold keepV
  split
  · exact mkN_filter _ l
  · exact Int.le_refl _
end Go.Proofs.Ytplekidnlofioaa.Q
namespace Go.Proofs.Ytplekidnlofioaa.Q
open Go.Proofs.Ytplekidnlofioaa.Opens Go.RowKit Go.Proofs.YtplekidnlofioaaW.PrintWords Go.Proofs.YtplekidnlofioaaW.PrintLast Go.Proofs.YtplekidnlofioaaW.PrintMore
attribute [local go_sem] max2_int min2_int max_two min_two max_three min_three max_four min_four
set_option linter.unusedVariables false
set_option linter.unusedSimpArgs false
set_option maxHeartbeats 16000000 in
set_option maxRecDepth 100000 in
theorem keepPods_true (A0 : Option Addr) (c0 : Nat) (l : List S137) (A1 : Option Addr) (c1 : Nat) (pods : List ByteArray) (w : World) (hr0 : Kd.C k137 w A0 l.length l) (hc0 : l.length ≤ c0) (hr1 : Kd.C Kd.string w A1 pods.length pods) (hc1 : pods.length ≤ c1) (hok : okL 56 ok137 l) (hok1 : okL 16 okS pods) :
    Calls Try.prog 5 #[.slice A0 l.length c0, .slice A1 pods.length c1] w fun e w' => e = .returned (.bool true) ∧ Below w.heap.size w w' := by
  obtain ⟨hb1, hb2⟩ := big_ofS hok
  have HR0 := ak hr0
  have HC0 := ak hc0
  have HR1 := ak hr1
  have HC1 := ak hc1
  obtain ⟨hp1, hp2⟩ := big_ofT hok1
  have HB := ak (Below.refl w.heap.size w)
  obtain ⟨kz, hkz⟩ := rounds_of (szSeriesS_ev l hb1 hb2 1048576 (by decide) (by decide))
  by_cases d : (1048576 : Int) - l.length - wL l < 0
  · rw [cutN_neg d] at hkz
    have KZ := ak hkz
    clear hkz d hb1 hb2 hr0 hc0 hok hr1 hc1 hok1 hp1 hp2
    go_enter Try.func5, Try.ntmps5
    go_wp2_with (first | ((with_reducible refine gate_dst (N := 19) rfl ?_); refine gl (some 19) Try.func21 #[.slice A0 l.length c0, .int .i64 1048576] ?_; (refine (laws_szSeriesS.calls _ _ _ l 1048576 (-1) _ ?s0 HC0.out KZ.out).mono ?_); (case s0 => exact cb HR0); rintro e w1 ⟨rfl, hb⟩; refine ⟨_, rfl, ?_⟩; have SZ0 := ak hb.size; replace HB := ak (below_step HB.out hb); clear hb))
    go_ret
    exact ⟨rfl, HB.out⟩
  · rw [cutN_nn d] at hkz
    have hn := wL_nn l
    obtain ⟨r1, hr1_⟩ : ∃ r, r = (1048576 : Int) - l.length - wL l := ⟨_, rfl⟩
    rw [← hr1_] at hkz d
    have e0 : decide (r1 < 0) = false := decide_eq_false d
    obtain ⟨ky, hky⟩ := rounds_of (szStringS_ev pods hp1 hp2 r1 (by omega) (by omega))
    by_cases d2 : r1 - pods.length - wT pods < 0
    · rw [cutN_neg d2] at hky
      have KZ := ak hkz
      have KY := ak hky
      clear hkz hky d d2 hn hb1 hb2 hr0 hc0 hok hr1 hc1 hok1 hp1 hp2 hr1_
      go_enter Try.func5, Try.ntmps5
      go_wp2_with (first | ((with_reducible refine gate_dst (N := 19) rfl ?_); refine gl (some 19) Try.func21 #[.slice A0 l.length c0, .int .i64 1048576] ?_; (refine (laws_szSeriesS.calls _ _ _ l 1048576 r1 _ ?s0 HC0.out KZ.out).mono ?_); (case s0 => exact cb HR0); rintro e w1 ⟨rfl, hb⟩; refine ⟨_, rfl, ?_⟩; have SZ0 := ak hb.size; replace HB := ak (below_step HB.out hb); clear hb) | ((with_reducible refine gate_dst (N := 24) rfl ?_); refine gl (some 24) Try.func27 #[.slice A1 pods.length c1, .int .i64 r1] ?_; (refine (laws_szStringS.calls _ _ _ pods r1 (-1) _ ?s0 HC1.out KY.out).mono ?_); (case s0 => exact cb HR1); rintro e w2 ⟨rfl, hd⟩; refine ⟨_, rfl, ?_⟩; have hb := drawn_below hd; clear hd; have SZ1 := ak hb.size; replace HB := ak (below_step HB.out hb); clear hb))
      go_ret
      exact ⟨rfl, HB.out⟩
    rw [cutN_nn d2] at hky
    have hnT := wT_nn pods
    have KY := ak hky
    have hpp : pods.length ≤ 1048576 := by omega
    have hxl : l.length ≤ 1048576 := by omega
    have hpl : ∀ s ∈ l, s.f2.length ≤ 1048576 := fun s hs => by have := wL_mem2 hs; omega
    have hwl : ∀ s ∈ l, wS s ≤ 1048576 := fun s hs => by have := wL_mem hs; omega
    obtain ⟨X, hX⟩ : ∃ X, X = l.map toS := ⟨_, rfl⟩
    have hX1 : X.length ≤ 1048576 := by rw [hX, List.length_map]; exact hxl
    have hX2 : ∀ s ∈ X, s.f2.length ≤ 1048576 := fun s hs => by
      rw [hX] at hs
      obtain ⟨x, hx, rfl⟩ := List.mem_map.1 hs
      show (x.f2.map toP).length ≤ _
      rw [List.length_map]
      exact hpl x hx
    have hX3 : ∀ s ∈ X, fitS s := by rw [hX]; exact fit_toS hwl
    have hX4 : mkN X ≤ 2 * l.length + 2 * wL l := by rw [hX]; exact mkN_toS l
    have hT := toSeriesS_ev l hxl hpl
    rw [← hX] at hT
    obtain ⟨R, hR⟩ : ∃ R, R = (keepV pods X).1 := ⟨_, rfl⟩
    obtain ⟨fl, hfl⟩ : ∃ fl, fl = (keepV pods X).2 := ⟨_, rfl⟩
    have hRF : keepV pods X = (R, fl) := by rw [hR, hfl]
    have hR1 : R.length ≤ 1048576 := by rw [hR]; exact Nat.le_trans (keepV_len pods _) hX1
    have hR2 : ∀ s ∈ R, s.f2.length ≤ 1048576 := by rw [hR]; exact keepV_pts pods _ hX2
    have hR3 : mkN R ≤ mkN X := by rw [hR]; exact keepV_mkN pods _
    have hkS := spec_KeepPods_ev pods hpp X hX1 hX2 hX3
    rw [hRF] at hkS
    obtain ⟨ks_, hks_⟩ := rounds_of hkS
    have hI := fun (A : Option Addr) (c : Nat) (Ap : Option Addr) (np : Nat) (w : World) (h1 : Kd.C k81 w A X.length X) (h2 : X.length ≤ c) (h3 : Kd.C Kd.string w Ap pods.length pods) (h4 : pods.length ≤ np) => impl_KeepPods_calls A c X Ap np pods w h1 h2 h3 h4 hpp hX1 hX2 hX3
    rw [hRF] at hI
    obtain ⟨kt_, hkt_⟩ := rounds_of hT
    obtain ⟨ke_, hke_⟩ := rounds_of (eqSeriesS_ev R (by omega) (fun s hs => by have := hR2 s hs; omega))
    obtain ⟨kx_, hkx_⟩ := rounds_of (eqSeriesS_ev X (by omega) (fun s hs => by have := hX2 s hs; omega))
    obtain ⟨ku_, hku_⟩ := rounds_of (toStringS_ev pods hpp)
    obtain ⟨kp_, hkp_⟩ := rounds_of (eqStringS_ev pods hpp)
    obtain ⟨mk, hmk⟩ := markStringS_ev pods (1 + mkN X) (by have := mkN_nn X; omega) (by omega) hpp
    obtain ⟨km_, hkm_⟩ := rounds_of hmk
    have KT1 := ak hku_
    have KP := ak hkp_
    have KM := ak hkm_
    have e4 : decide (1 + mkN X + (pods.length : Int) < 0) = false := decide_eq_false (by have := mkN_nn X; omega)
    obtain ⟨r2, hr2_⟩ : ∃ r, r = r1 - pods.length - wT pods := ⟨_, rfl⟩
    rw [← hr2_] at KY d2
    have e5 : decide (r2 < 0) = false := decide_eq_false d2
    have KZ := ak hkz
    have KS := ak hks_
    have KI := ak hI
    have KT0 := ak hkt_
    have KE := ak hke_
    have KX := ak hkx_
    have MX := ak (show (0 : Int) ≤ 1 ∧ 1 + mkN X ≤ 4611686018427387000 ∧ X.length ≤ 4611686018427387000 from ⟨by decide, by omega, by omega⟩)
    have MR := ak (show (0 : Int) ≤ 1 ∧ 1 + mkN R ≤ 4611686018427387000 ∧ R.length ≤ 4611686018427387000 from ⟨by decide, by omega, by omega⟩)
    have e1 : decide (1 + mkN X < 0) = false := decide_eq_false (by have := mkN_nn X; omega)
    have e2 : decide (1 + mkN R < 0) = false := decide_eq_false (by have := mkN_nn R; omega)
    have e3 : (fl != fl) = false := bne_self_eq_false fl
    clear hkz hky hks_ hku_ hkp_ hkm_ hmk hI hkt_ hke_ hkx_ hkS hR hfl hRF hR1 hR2 hR3 hX hT hX1 hX2 hX3 hX4 hxl hpl hwl hn hnT hpp hb1 hb2 hr0 hc0 hok hr1_ hr2_ hr1 hc1 hok1 hp1 hp2 d d2
    go_enter Try.func5, Try.ntmps5
    go_wp2_with (first | ((with_reducible refine gate_dst (N := 19) rfl ?_); refine gl (some 19) Try.func21 #[.slice A0 l.length c0, .int .i64 1048576] ?_; (refine (laws_szSeriesS.calls _ _ _ l 1048576 r1 _ ?s0 HC0.out KZ.out).mono ?_); (case s0 => exact cb HR0); rintro e w1 ⟨rfl, hb⟩; refine ⟨_, rfl, ?_⟩; have SZ0 := ak hb.size; replace HB := ak (below_step HB.out hb); clear hb) | ((with_reducible refine gate_dst (N := 24) rfl ?_); refine gl (some 24) Try.func27 #[.slice A1 pods.length c1, .int .i64 r1] ?_; (refine (laws_szStringS.calls _ _ _ pods r1 r2 _ ?s0 HC1.out KY.out).mono ?_); (case s0 => exact cb HR1); rintro e w2 ⟨rfl, hd⟩; refine ⟨_, rfl, ?_⟩; have hb := drawn_below hd; clear hd; have SZ1 := ak hb.size; replace HB := ak (below_step HB.out hb); clear hb) | ((with_reducible refine gate_dst (N := 29) rfl ?_); refine gl (some 29) Try.func23 #[.slice A0 l.length c0] ?_; (refine (laws_toSeriesS.calls _ _ _ l X _ ?s0 HC0.out KT0.out).mono ?_); (case s0 => exact cb HR0); rintro e w3 ⟨v_, rfl, ho, hb⟩; refine ⟨_, rfl, ?_⟩; obtain ⟨AOa, COa, ex⟩ := Kd.S_slice ho; subst ex; have Xa := ak (ivS_new (w := w) (W := w2) ho HB.out.size); have SZ2 := ak hb.size; replace HB := ak (below_step HB.out hb); clear hb ho) | ((with_reducible refine gate_dst (N := 31) rfl ?_); refine gl (some 31) Try.func29 #[.slice A1 pods.length c1] ?_; (refine (laws_toStringS.calls _ _ _ pods pods _ ?s0 HC1.out KT1.out).mono ?_); (case s0 => exact cb HR1); rintro e w4 ⟨v_, rfl, ho, hb⟩; refine ⟨_, rfl, ?_⟩; obtain ⟨AOp, COp, ex⟩ := Kd.R_slice ho; subst ex; replace Xa := ak (ivS_below Xa.out hb); have Xp := ak (ivR_new (w := w) (W := w3) ho HB.out.size); have SZ3 := ak hb.size; replace HB := ak (below_step HB.out hb); clear hb ho) | ((with_reducible refine gate_dst (N := 32) rfl ?_); refine gl (some 32) Try.func28 #[.slice AOa (X).length COa, .slice AOp (pods).length COp] ?_; (refine (spec_KeepPods.calls _ _ _ X _ _ pods R fl _ ?s0 ?s1 ?s2 ?s3 KS.out).mono ?_); (case s0 => exact ivS_read Xa.out); (case s1 => exact ivS_room Xa.out); (case s2 => exact ivR_read Xp.out); (case s3 => exact ivR_room Xp.out); rintro e w5 ⟨v_, rfl, ho, hb⟩; refine ⟨_, rfl, ?_⟩; obtain ⟨AOw, COw, ex⟩ := Kd.N_slice ho; subst ex; replace Xa := ak (ivS_below Xa.out hb); replace Xp := ak (ivR_below Xp.out hb); have ROw := ak (Kd.N_reads' ho).2.1; have Xw := ak (ivF_new (W := w4) ho); have SZ4 := ak hb.size; replace HB := ak (below_step HB.out hb); clear hb ho) | ((with_reducible refine gate_dst (N := 36) rfl ?_); refine gl (some 36) Try.func23 #[.slice A0 l.length c0] ?_; (refine (laws_toSeriesS.calls _ _ _ l X _ ?s0 HC0.out KT0.out).mono ?_); (case s0 => exact cb HR0); rintro e w6 ⟨v_, rfl, ho, hb⟩; refine ⟨_, rfl, ?_⟩; obtain ⟨AOx, COx, ex⟩ := Kd.S_slice ho; subst ex; replace Xa := ak (ivS_below Xa.out hb); replace Xp := ak (ivR_below Xp.out hb); replace Xw := ak (ivF_below Xw.out hb); have Xx := ak (ivS_new (w := w) (W := w5) ho HB.out.size); have SZ5 := ak hb.size; replace HB := ak (below_step HB.out hb); clear hb ho) | ((with_reducible refine gate_dst (N := 38) rfl ?_); refine gl (some 38) Try.func29 #[.slice A1 pods.length c1] ?_; (refine (laws_toStringS.calls _ _ _ pods pods _ ?s0 HC1.out KT1.out).mono ?_); (case s0 => exact cb HR1); rintro e w7 ⟨v_, rfl, ho, hb⟩; refine ⟨_, rfl, ?_⟩; obtain ⟨AOy, COy, ex⟩ := Kd.R_slice ho; subst ex; replace Xa := ak (ivS_below Xa.out hb); replace Xp := ak (ivR_below Xp.out hb); replace Xw := ak (ivF_below Xw.out hb); replace Xx := ak (ivS_below Xx.out hb); have Xy := ak (ivR_new (w := w) (W := w6) ho HB.out.size); have SZ6 := ak hb.size; replace HB := ak (below_step HB.out hb); clear hb ho) | ((with_reducible refine gate_dst (N := 42) rfl ?_); refine gl (some 42) Try.func19 #[.slice AOx (X).length COx, .slice AOy (pods).length COy] ?_; (refine (KI.out _ _ _ _ _ ?s0 ?s1 ?s2 ?s3).mono ?_); (case s0 => exact ivS_read Xx.out); (case s1 => exact ivS_room Xx.out); (case s2 => exact ivR_read Xy.out); (case s3 => exact ivR_room Xy.out); rintro e w8 ⟨v_, rfl, ho, hb⟩; refine ⟨_, rfl, ?_⟩; obtain ⟨AOg, COg, ex⟩ := Kd.S_slice ho; subst ex; replace Xa := ak (ivS_below Xa.out hb); replace Xp := ak (ivR_below Xp.out hb); replace Xw := ak (ivF_below Xw.out hb); replace Xx := ak (ivS_below Xx.out hb); replace Xy := ak (ivR_below Xy.out hb); have Xg := ak (ivS_new (w := w) (W := w7) ho HB.out.size); have SZ7 := ak hb.size; replace HB := ak (below_step HB.out hb); clear hb ho) | ((with_reducible refine gate_dst (N := 47) rfl ?_); refine gl (some 47) Try.func24 #[.slice AOg (R).length COg, .slice AOw (R).length COw] ?_; (refine (laws_eqSeriesS.calls _ _ _ _ _ _ _ true _ ?s0 ?s1 ?s2 ?s3 KE.out).mono ?_); (case s0 => exact ivS_read Xg.out); (case s1 => exact ivS_room Xg.out); (case s2 => exact ivF_read Xw.out); (case s3 => exact ROw.out); rintro e w9 ⟨rfl, hb⟩; refine ⟨_, rfl, ?_⟩; replace Xa := ak (ivS_below Xa.out hb); replace Xp := ak (ivR_below Xp.out hb); replace Xw := ak (ivF_below Xw.out hb); replace Xx := ak (ivS_below Xx.out hb); replace Xy := ak (ivR_below Xy.out hb); replace Xg := ak (ivS_below Xg.out hb); have SZ8 := ak hb.size; replace HB := ak (below_step HB.out hb); clear hb) | ((with_reducible refine gate_dst (N := 56) rfl ?_); refine gl (some 56) Try.func23 #[.slice A0 l.length c0] ?_; (refine (laws_toSeriesS.calls _ _ _ l X _ ?s0 HC0.out KT0.out).mono ?_); (case s0 => exact cb HR0); rintro e w10 ⟨v_, rfl, ho, hb⟩; refine ⟨_, rfl, ?_⟩; obtain ⟨AOb, COb, ex⟩ := Kd.S_slice ho; subst ex; replace Xa := ak (ivS_below Xa.out hb); replace Xp := ak (ivR_below Xp.out hb); replace Xw := ak (ivF_below Xw.out hb); replace Xx := ak (ivS_below Xx.out hb); replace Xy := ak (ivR_below Xy.out hb); replace Xg := ak (ivS_below Xg.out hb); have Xb := ak (ivS_new (w := w) (W := w9) ho HB.out.size); have SZ9 := ak hb.size; replace HB := ak (below_step HB.out hb); clear hb ho) | ((with_reducible refine gate_dst (N := 57) rfl ?_); refine gl (some 57) Try.func24 #[.slice AOx (X).length COx, .slice AOb (X).length COb] ?_; (refine (laws_eqSeriesS.calls _ _ _ _ _ _ _ true _ ?s0 ?s1 ?s2 ?s3 KX.out).mono ?_); (case s0 => exact ivS_read Xx.out); (case s1 => exact ivS_room Xx.out); (case s2 => exact ivS_read Xb.out); (case s3 => exact ivS_room Xb.out); rintro e w11 ⟨rfl, hb⟩; refine ⟨_, rfl, ?_⟩; replace Xa := ak (ivS_below Xa.out hb); replace Xp := ak (ivR_below Xp.out hb); replace Xw := ak (ivF_below Xw.out hb); replace Xx := ak (ivS_below Xx.out hb); replace Xy := ak (ivR_below Xy.out hb); replace Xg := ak (ivS_below Xg.out hb); replace Xb := ak (ivS_below Xb.out hb); have SZ10 := ak hb.size; replace HB := ak (below_step HB.out hb); clear hb) | ((with_reducible refine gate_dst (N := 61) rfl ?_); refine gl (some 61) Try.func29 #[.slice A1 pods.length c1] ?_; (refine (laws_toStringS.calls _ _ _ pods pods _ ?s0 HC1.out KT1.out).mono ?_); (case s0 => exact cb HR1); rintro e w12 ⟨v_, rfl, ho, hb⟩; refine ⟨_, rfl, ?_⟩; obtain ⟨AOq, COq, ex⟩ := Kd.R_slice ho; subst ex; replace Xa := ak (ivS_below Xa.out hb); replace Xp := ak (ivR_below Xp.out hb); replace Xw := ak (ivF_below Xw.out hb); replace Xx := ak (ivS_below Xx.out hb); replace Xy := ak (ivR_below Xy.out hb); replace Xg := ak (ivS_below Xg.out hb); replace Xb := ak (ivS_below Xb.out hb); have Xq := ak (ivR_new (w := w) (W := w11) ho HB.out.size); have SZ11 := ak hb.size; replace HB := ak (below_step HB.out hb); clear hb ho) | ((with_reducible refine gate_dst (N := 62) rfl ?_); refine gl (some 62) Try.func30 #[.slice AOy (pods).length COy, .slice AOq (pods).length COq] ?_; (refine (laws_eqStringS.calls _ _ _ _ _ _ _ true _ ?s0 ?s1 ?s2 ?s3 KP.out).mono ?_); (case s0 => exact ivR_read Xy.out); (case s1 => exact ivR_room Xy.out); (case s2 => exact ivR_read Xq.out); (case s3 => exact ivR_room Xq.out); rintro e w13 ⟨rfl, hd⟩; refine ⟨_, rfl, ?_⟩; have hb := drawn_below hd; clear hd; replace Xa := ak (ivS_below Xa.out hb); replace Xp := ak (ivR_below Xp.out hb); replace Xw := ak (ivF_below Xw.out hb); replace Xx := ak (ivS_below Xx.out hb); replace Xy := ak (ivR_below Xy.out hb); replace Xg := ak (ivS_below Xg.out hb); replace Xb := ak (ivS_below Xb.out hb); replace Xq := ak (ivR_below Xq.out hb); have SZ12 := ak hb.size; replace HB := ak (below_step HB.out hb); clear hb) | ((with_reducible refine gate_dst (N := 66) rfl ?_); refine gl (some 66) Try.func25 #[.slice AOx (X).length COx, .int .i64 1] ?_; (refine (laws_markSeriesS_calls (fun k => w5.heap.size ≤ k ∧ k < w6.heap.size) _ (X) 1 w _ ?s0 ?s1 ?s2 ?s3 ?s4).mono ?_); (case s0 => exact HB.out); (case s1 => exact Xx.out); (case s2 => exact MX.out.1); (case s3 => exact MX.out.2.1); (case s4 => exact MX.out.2.2); rintro e w14 ⟨rfl, ho, hb, hk⟩; refine ⟨_, rfl, ?_⟩; replace Xa := ak (ivS_kept Xa.out hk (.inl (by have := SZ0.out; have := SZ1.out; have := SZ2.out; have := SZ3.out; have := SZ4.out; have := SZ5.out; have := SZ6.out; have := SZ7.out; have := SZ8.out; have := SZ9.out; have := SZ10.out; have := SZ11.out; have := SZ12.out; omega))); replace Xp := ak (ivR_kept Xp.out hk (.inl (by have := SZ0.out; have := SZ1.out; have := SZ2.out; have := SZ3.out; have := SZ4.out; have := SZ5.out; have := SZ6.out; have := SZ7.out; have := SZ8.out; have := SZ9.out; have := SZ10.out; have := SZ11.out; have := SZ12.out; omega))); replace Xw := ak (ivF_kept Xw.out hk (.inl (by have := SZ0.out; have := SZ1.out; have := SZ2.out; have := SZ3.out; have := SZ4.out; have := SZ5.out; have := SZ6.out; have := SZ7.out; have := SZ8.out; have := SZ9.out; have := SZ10.out; have := SZ11.out; have := SZ12.out; omega))); replace Xy := ak (ivR_kept Xy.out hk (.inr (by have := SZ0.out; have := SZ1.out; have := SZ2.out; have := SZ3.out; have := SZ4.out; have := SZ5.out; have := SZ6.out; have := SZ7.out; have := SZ8.out; have := SZ9.out; have := SZ10.out; have := SZ11.out; have := SZ12.out; omega))); replace Xg := ak (ivS_kept Xg.out hk (.inr (by have := SZ0.out; have := SZ1.out; have := SZ2.out; have := SZ3.out; have := SZ4.out; have := SZ5.out; have := SZ6.out; have := SZ7.out; have := SZ8.out; have := SZ9.out; have := SZ10.out; have := SZ11.out; have := SZ12.out; omega))); replace Xb := ak (ivS_kept Xb.out hk (.inr (by have := SZ0.out; have := SZ1.out; have := SZ2.out; have := SZ3.out; have := SZ4.out; have := SZ5.out; have := SZ6.out; have := SZ7.out; have := SZ8.out; have := SZ9.out; have := SZ10.out; have := SZ11.out; have := SZ12.out; omega))); replace Xq := ak (ivR_kept Xq.out hk (.inr (by have := SZ0.out; have := SZ1.out; have := SZ2.out; have := SZ3.out; have := SZ4.out; have := SZ5.out; have := SZ6.out; have := SZ7.out; have := SZ8.out; have := SZ9.out; have := SZ10.out; have := SZ11.out; have := SZ12.out; omega))); have SZ13 := ak hk.1; replace HB := ak hb; clear hb ho hk) | ((with_reducible refine gate_dst (N := 69) rfl ?_); refine gl (some 69) Try.func31 #[.slice AOy (pods).length COy, .int .i64 (1 + mkN X)] ?_; (refine (laws_markStringS.calls _ (fun k => w6.heap.size ≤ k ∧ k < w7.heap.size) _ pods (1 + mkN X) (1 + mkN X + pods.length) mk w _ ?s0 ?s1 KM.out).mono ?_); (case s0 => exact HB.out); (case s1 => exact Xy.out); rintro e w15 ⟨rfl, ho, hb, hk⟩; refine ⟨_, rfl, ?_⟩; replace Xa := ak (ivS_kept Xa.out hk (.inl (by have := SZ0.out; have := SZ1.out; have := SZ2.out; have := SZ3.out; have := SZ4.out; have := SZ5.out; have := SZ6.out; have := SZ7.out; have := SZ8.out; have := SZ9.out; have := SZ10.out; have := SZ11.out; have := SZ12.out; have := SZ13.out; omega))); replace Xp := ak (ivR_kept Xp.out hk (.inl (by have := SZ0.out; have := SZ1.out; have := SZ2.out; have := SZ3.out; have := SZ4.out; have := SZ5.out; have := SZ6.out; have := SZ7.out; have := SZ8.out; have := SZ9.out; have := SZ10.out; have := SZ11.out; have := SZ12.out; have := SZ13.out; omega))); replace Xw := ak (ivF_kept Xw.out hk (.inl (by have := SZ0.out; have := SZ1.out; have := SZ2.out; have := SZ3.out; have := SZ4.out; have := SZ5.out; have := SZ6.out; have := SZ7.out; have := SZ8.out; have := SZ9.out; have := SZ10.out; have := SZ11.out; have := SZ12.out; have := SZ13.out; omega))); replace Xg := ak (ivS_kept Xg.out hk (.inr (by have := SZ0.out; have := SZ1.out; have := SZ2.out; have := SZ3.out; have := SZ4.out; have := SZ5.out; have := SZ6.out; have := SZ7.out; have := SZ8.out; have := SZ9.out; have := SZ10.out; have := SZ11.out; have := SZ12.out; have := SZ13.out; omega))); replace Xb := ak (ivS_kept Xb.out hk (.inr (by have := SZ0.out; have := SZ1.out; have := SZ2.out; have := SZ3.out; have := SZ4.out; have := SZ5.out; have := SZ6.out; have := SZ7.out; have := SZ8.out; have := SZ9.out; have := SZ10.out; have := SZ11.out; have := SZ12.out; have := SZ13.out; omega))); replace Xq := ak (ivR_kept Xq.out hk (.inr (by have := SZ0.out; have := SZ1.out; have := SZ2.out; have := SZ3.out; have := SZ4.out; have := SZ5.out; have := SZ6.out; have := SZ7.out; have := SZ8.out; have := SZ9.out; have := SZ10.out; have := SZ11.out; have := SZ12.out; have := SZ13.out; omega))); have SZ14 := ak hk.1; replace HB := ak hb; clear hb ho hk) | (go_at_call 24; (refine (laws_eqSeriesS.calls _ _ _ _ _ _ _ true _ ?s0 ?s1 ?s2 ?s3 KE.out).mono ?_); (case s0 => exact ivS_read Xg.out); (case s1 => exact ivS_room Xg.out); (case s2 => exact ivF_read Xw.out); (case s3 => exact ROw.out); rintro e w16 ⟨rfl, hb⟩; replace Xa := ak (ivS_below Xa.out hb); replace Xp := ak (ivR_below Xp.out hb); replace Xw := ak (ivF_below Xw.out hb); replace Xg := ak (ivS_below Xg.out hb); replace Xb := ak (ivS_below Xb.out hb); replace Xq := ak (ivR_below Xq.out hb); have SZ15 := ak hb.size; replace HB := ak (below_step HB.out hb); clear hb) | ((with_reducible refine gate_dst (N := 85) rfl ?_); refine gl (some 85) Try.func25 #[.slice AOg (R).length COg, .int .i64 1] ?_; (refine (laws_markSeriesS_calls (fun k => w7.heap.size ≤ k ∧ k < w8.heap.size) _ (R) 1 w _ ?s0 ?s1 ?s2 ?s3 ?s4).mono ?_); (case s0 => exact HB.out); (case s1 => exact Xg.out); (case s2 => exact MR.out.1); (case s3 => exact MR.out.2.1); (case s4 => exact MR.out.2.2); rintro e w17 ⟨rfl, ho, hb, hk⟩; refine ⟨_, rfl, ?_⟩; replace Xa := ak (ivS_kept Xa.out hk (.inl (by have := SZ0.out; have := SZ1.out; have := SZ2.out; have := SZ3.out; have := SZ4.out; have := SZ5.out; have := SZ6.out; have := SZ7.out; have := SZ8.out; have := SZ9.out; have := SZ10.out; have := SZ11.out; have := SZ12.out; have := SZ13.out; have := SZ14.out; have := SZ15.out; omega))); replace Xp := ak (ivR_kept Xp.out hk (.inl (by have := SZ0.out; have := SZ1.out; have := SZ2.out; have := SZ3.out; have := SZ4.out; have := SZ5.out; have := SZ6.out; have := SZ7.out; have := SZ8.out; have := SZ9.out; have := SZ10.out; have := SZ11.out; have := SZ12.out; have := SZ13.out; have := SZ14.out; have := SZ15.out; omega))); replace Xw := ak (ivF_kept Xw.out hk (.inl (by have := SZ0.out; have := SZ1.out; have := SZ2.out; have := SZ3.out; have := SZ4.out; have := SZ5.out; have := SZ6.out; have := SZ7.out; have := SZ8.out; have := SZ9.out; have := SZ10.out; have := SZ11.out; have := SZ12.out; have := SZ13.out; have := SZ14.out; have := SZ15.out; omega))); replace Xb := ak (ivS_kept Xb.out hk (.inr (by have := SZ0.out; have := SZ1.out; have := SZ2.out; have := SZ3.out; have := SZ4.out; have := SZ5.out; have := SZ6.out; have := SZ7.out; have := SZ8.out; have := SZ9.out; have := SZ10.out; have := SZ11.out; have := SZ12.out; have := SZ13.out; have := SZ14.out; have := SZ15.out; omega))); replace Xq := ak (ivR_kept Xq.out hk (.inr (by have := SZ0.out; have := SZ1.out; have := SZ2.out; have := SZ3.out; have := SZ4.out; have := SZ5.out; have := SZ6.out; have := SZ7.out; have := SZ8.out; have := SZ9.out; have := SZ10.out; have := SZ11.out; have := SZ12.out; have := SZ13.out; have := SZ14.out; have := SZ15.out; omega))); have SZ16 := ak hk.1; have Rg := ak (ivS_room Xg.out); have Hg := ak (show Kd.C k81 w17 AOg (R).length (markS 1 (R)) from by have h_ := (Kd.S_reads' ho).2.2; rw [markS_len] at h_; exact h_); replace HB := ak hb; clear hb ho hk) | ((with_reducible refine gate_dst (N := 88) rfl ?_); refine gl (some 88) Try.func26 #[.slice AOg (R).length COg, .int .i64 1] ?_; (refine (heldS_calls _ _ (R) _ ?s0 ?s1 MR.out.2.1 MR.out.2.2).mono ?_); (case s0 => exact Hg.out); (case s1 => exact Rg.out); rintro e w18 ⟨rfl, hb⟩; refine ⟨_, rfl, ?_⟩; replace Xa := ak (ivS_below Xa.out hb); replace Xp := ak (ivR_below Xp.out hb); replace Xw := ak (ivF_below Xw.out hb); replace Xb := ak (ivS_below Xb.out hb); replace Xq := ak (ivR_below Xq.out hb); replace Hg := ak (Kd.C_below Hg.out hb); have SZ17 := ak hb.size; replace HB := ak (below_step HB.out hb); clear hb) | ((with_reducible refine gate_dst (N := 96) rfl ?_); refine gl (some 96) Try.func23 #[.slice A0 l.length c0] ?_; (refine (laws_toSeriesS.calls _ _ _ l X _ ?s0 HC0.out KT0.out).mono ?_); (case s0 => exact cb HR0); rintro e w19 ⟨v_, rfl, ho, hb⟩; refine ⟨_, rfl, ?_⟩; obtain ⟨AOc, COc, ex⟩ := Kd.S_slice ho; subst ex; replace Xa := ak (ivS_below Xa.out hb); replace Xp := ak (ivR_below Xp.out hb); replace Xw := ak (ivF_below Xw.out hb); replace Xb := ak (ivS_below Xb.out hb); replace Xq := ak (ivR_below Xq.out hb); replace Hg := ak (Kd.C_below Hg.out hb); have Xc := ak (ivS_new (w := w) (W := w18) ho HB.out.size); have SZ18 := ak hb.size; replace HB := ak (below_step HB.out hb); clear hb ho) | ((with_reducible refine gate_dst (N := 98) rfl ?_); refine gl (some 98) Try.func29 #[.slice A1 pods.length c1] ?_; (refine (laws_toStringS.calls _ _ _ pods pods _ ?s0 HC1.out KT1.out).mono ?_); (case s0 => exact cb HR1); rintro e w20 ⟨v_, rfl, ho, hb⟩; refine ⟨_, rfl, ?_⟩; obtain ⟨AOs, COs, ex⟩ := Kd.R_slice ho; subst ex; replace Xa := ak (ivS_below Xa.out hb); replace Xp := ak (ivR_below Xp.out hb); replace Xw := ak (ivF_below Xw.out hb); replace Xb := ak (ivS_below Xb.out hb); replace Xq := ak (ivR_below Xq.out hb); replace Xc := ak (ivS_below Xc.out hb); replace Hg := ak (Kd.C_below Hg.out hb); have Xs := ak (ivR_new (w := w) (W := w19) ho HB.out.size); have SZ19 := ak hb.size; replace HB := ak (below_step HB.out hb); clear hb ho) | ((with_reducible refine gate_dst (N := 99) rfl ?_); refine gl (some 99) Try.func19 #[.slice AOc (X).length COc, .slice AOs (pods).length COs] ?_; (refine (KI.out _ _ _ _ _ ?s0 ?s1 ?s2 ?s3).mono ?_); (case s0 => exact ivS_read Xc.out); (case s1 => exact ivS_room Xc.out); (case s2 => exact ivR_read Xs.out); (case s3 => exact ivR_room Xs.out); rintro e w21 ⟨v_, rfl, ho, hb⟩; refine ⟨_, rfl, ?_⟩; obtain ⟨AOh, COh, ex⟩ := Kd.S_slice ho; subst ex; replace Xa := ak (ivS_below Xa.out hb); replace Xp := ak (ivR_below Xp.out hb); replace Xw := ak (ivF_below Xw.out hb); replace Xb := ak (ivS_below Xb.out hb); replace Xq := ak (ivR_below Xq.out hb); replace Xc := ak (ivS_below Xc.out hb); replace Xs := ak (ivR_below Xs.out hb); replace Hg := ak (Kd.C_below Hg.out hb); have Xh := ak (ivS_new (w := w) (W := w20) ho HB.out.size); have SZ20 := ak hb.size; replace HB := ak (below_step HB.out hb); clear hb ho) | ((with_reducible refine gate_dst (N := 104) rfl ?_); refine gl (some 104) Try.func24 #[.slice AOh (R).length COh, .slice AOw (R).length COw] ?_; (refine (laws_eqSeriesS.calls _ _ _ _ _ _ _ true _ ?s0 ?s1 ?s2 ?s3 KE.out).mono ?_); (case s0 => exact ivS_read Xh.out); (case s1 => exact ivS_room Xh.out); (case s2 => exact ivF_read Xw.out); (case s3 => exact ROw.out); rintro e w22 ⟨rfl, hb⟩; refine ⟨_, rfl, ?_⟩; replace Xa := ak (ivS_below Xa.out hb); replace Xp := ak (ivR_below Xp.out hb); replace Xw := ak (ivF_below Xw.out hb); replace Xb := ak (ivS_below Xb.out hb); replace Xq := ak (ivR_below Xq.out hb); replace Xc := ak (ivS_below Xc.out hb); replace Xs := ak (ivR_below Xs.out hb); replace Xh := ak (ivS_below Xh.out hb); replace Hg := ak (Kd.C_below Hg.out hb); have SZ21 := ak hb.size; replace HB := ak (below_step HB.out hb); clear hb) | ((with_reducible refine gate_dst (N := 113) rfl ?_); refine gl (some 113) Try.func26 #[.slice AOg (R).length COg, .int .i64 1] ?_; (refine (heldS_calls _ _ (R) _ ?s0 ?s1 MR.out.2.1 MR.out.2.2).mono ?_); (case s0 => exact Hg.out); (case s1 => exact Rg.out); rintro e w23 ⟨rfl, hb⟩; refine ⟨_, rfl, ?_⟩; replace Xa := ak (ivS_below Xa.out hb); replace Xp := ak (ivR_below Xp.out hb); replace Xw := ak (ivF_below Xw.out hb); replace Xb := ak (ivS_below Xb.out hb); replace Xq := ak (ivR_below Xq.out hb); replace Xc := ak (ivS_below Xc.out hb); replace Xs := ak (ivR_below Xs.out hb); replace Xh := ak (ivS_below Xh.out hb); replace Hg := ak (Kd.C_below Hg.out hb); have SZ22 := ak hb.size; replace HB := ak (below_step HB.out hb); clear hb))
    go_ret
    exact ⟨rfl, HB.out⟩
end Go.Proofs.Ytplekidnlofioaa.Q
