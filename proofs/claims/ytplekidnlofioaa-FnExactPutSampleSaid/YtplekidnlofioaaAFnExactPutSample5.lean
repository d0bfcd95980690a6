/- Part 5 of the proof of FnExactPutSample: contracts of the functions that it reaches, printed and by hand, and what they come to in plain Lean. -/
import Derived.Test.YtplekidnlofioaaAFnExactPutSample2
import Derived.Test.YtplekidnlofioaaAFnExactPutSample4
import Derived.Test.YtplekidnlofioaaAFnExactPutSample3
import Derived.Shelf.Spec.SlicesInsert
import Derived.Lib.AppendZerosOnto
import Derived.Laws.CopyOwn
import Derived.Laws.NewBlocks
namespace Go.Proofs.Ytplekidnlofioaa.Q
open Go.RowKit Go.Proofs.YtplekidnlofioaaW.PrintWords Go.Proofs.YtplekidnlofioaaW.PrintLast Go.Proofs.YtplekidnlofioaaW.PrintMore
attribute [local go_sem] max2_int min2_int max_two min_two max_three min_three max_four min_four   -- for this text's walks alone
set_option linter.unusedVariables false
set_option linter.unusedSimpArgs false

/-! ### spec_KeepPods: function 28 -/
mutual
def spec_KeepPods.j0 : Nat → List ByteArray → List (S81) → Bool → Option ((List (S81)) × Bool)
 | 0, _, _, _ => none
 | k + 1, x1, x6, x20 => if x20 = true then (some (x6, false)) else (spec_KeepPods.l0 k x1 x6 (([] : List (S81))) 0)
def spec_KeepPods.l0 : Nat → List ByteArray → List (S81) → List (S81) → Int → Option ((List (S81)) × Bool)
 | 0, _, _, _, _ => none
 | k + 1, x1, x6, x7, x8 => if x8 < (x6.length : Int) then (spec_KeepPods.l1 k x1 x6 x7 x8 false 0) else (some (x7, true))
def spec_KeepPods.l1 : Nat → List ByteArray → List (S81) → List (S81) → Int → Bool → Int → Option ((List (S81)) × Bool)
 | 0, _, _, _, _, _, _ => none
 | k + 1, x1, x6, x7, x8, x9, x10 => if x10 < (x1.length : Int) then (if x9 = true then (spec_KeepPods.l1 k x1 x6 x7 x8 true (wrap64 (x10 + 1))) else (if 0 ≤ x10 then (if 0 ≤ x8 then (if x8 < (x6.length : Int) then (spec_KeepPods.l1 k x1 x6 x7 x8 ((rdOf ByteArray.empty x1 x10).toList == ((rd_T81 x6 x8).f0).toList) (wrap64 (x10 + 1))) else (none)) else (none)) else (none))) else (if x9 = true then (if 0 ≤ x8 then (if x8 < (x6.length : Int) then (if x7.length < 2513169434916 then (spec_KeepPods.l0 k x1 x6 (x7 ++ [(⟨(rd_T81 x6 x8).f0, (rd_T81 x6 x8).f1, (rd_T81 x6 x8).f2⟩ : S81)]) (wrap64 (x8 + 1))) else (none)) else (none)) else (none)) else (spec_KeepPods.l0 k x1 x6 x7 (wrap64 (x8 + 1))))
end
def spec_KeepPods.f (k : Nat) (l0 : List (S81)) (l1 : List ByteArray) : Option ((List (S81)) × Bool) := (spec_l03Copy.f k l0).bind fun t327 => ((spec_StoreOk.f k l0).bind fun t330 => (if t330 = true then (spec_KeepPods.j0 k l1 t327 (decide ((l1.length : Int) > 300))) else (spec_KeepPods.j0 k l1 t327 true)))
theorem spec_KeepPods.mono_l : ∀ k, (∀ y0 y1 y2, LeO (spec_KeepPods.j0 k y0 y1 y2) (spec_KeepPods.j0 (k + 1) y0 y1 y2)) ∧ (∀ y0 y1 y2 y3, LeO (spec_KeepPods.l0 k y0 y1 y2 y3) (spec_KeepPods.l0 (k + 1) y0 y1 y2 y3)) ∧ (∀ y0 y1 y2 y3 y4 y5, LeO (spec_KeepPods.l1 k y0 y1 y2 y3 y4 y5) (spec_KeepPods.l1 (k + 1) y0 y1 y2 y3 y4 y5))
 | 0 => ⟨fun _ _ _ r h => by simp [spec_KeepPods.j0] at h, fun _ _ _ _ r h => by simp [spec_KeepPods.l0] at h, fun _ _ _ _ _ _ r h => by simp [spec_KeepPods.l1] at h⟩
 | k + 1 => by
  obtain ⟨ih0, ih1, ih2⟩ := spec_KeepPods.mono_l k
  refine ⟨?_, ?_, ?_⟩
  · intro y0 y1 y2
    unfold spec_KeepPods.j0
    repeat' first
    | (with_reducible exact ih0 _ _ _)
    | (with_reducible exact ih1 _ _ _ _)
    | (with_reducible exact ih2 _ _ _ _ _ _)
    | (with_reducible exact spec_StoreOk.mono _ _)
    | (with_reducible exact spec_l03Copy.mono _ _)
    | (with_reducible exact LeO.refl _)
    | (with_reducible exact LeO.none _)
    | (with_reducible refine LeO.ite ?_ ?_)
    | (with_reducible refine LeO.bind ?_ (fun _ => ?_))
    | exact ih0 _ _ _
    | exact ih1 _ _ _ _
    | exact ih2 _ _ _ _ _ _
    | exact spec_StoreOk.mono _ _
    | exact spec_l03Copy.mono _ _
    | exact LeO.none _
    | refine LeO.ite ?_ ?_
    | refine LeO.bind ?_ (fun _ => ?_)
  · intro y0 y1 y2 y3
    unfold spec_KeepPods.l0
    repeat' first
    | (with_reducible exact ih0 _ _ _)
    | (with_reducible exact ih1 _ _ _ _)
    | (with_reducible exact ih2 _ _ _ _ _ _)
    | (with_reducible exact spec_StoreOk.mono _ _)
    | (with_reducible exact spec_l03Copy.mono _ _)
    | (with_reducible exact LeO.refl _)
    | (with_reducible exact LeO.none _)
    | (with_reducible refine LeO.ite ?_ ?_)
    | (with_reducible refine LeO.bind ?_ (fun _ => ?_))
    | exact ih0 _ _ _
    | exact ih1 _ _ _ _
    | exact ih2 _ _ _ _ _ _
    | exact spec_StoreOk.mono _ _
    | exact spec_l03Copy.mono _ _
    | exact LeO.none _
    | refine LeO.ite ?_ ?_
    | refine LeO.bind ?_ (fun _ => ?_)
  · intro y0 y1 y2 y3 y4 y5
    unfold spec_KeepPods.l1
    repeat' first
    | (with_reducible exact ih0 _ _ _)
    | (with_reducible exact ih1 _ _ _ _)
    | (with_reducible exact ih2 _ _ _ _ _ _)
    | (with_reducible exact spec_StoreOk.mono _ _)
    | (with_reducible exact spec_l03Copy.mono _ _)
    | (with_reducible exact LeO.refl _)
    | (with_reducible exact LeO.none _)
    | (with_reducible refine LeO.ite ?_ ?_)
    | (with_reducible refine LeO.bind ?_ (fun _ => ?_))
    | exact ih0 _ _ _
    | exact ih1 _ _ _ _
    | exact ih2 _ _ _ _ _ _
    | exact spec_StoreOk.mono _ _
    | exact spec_l03Copy.mono _ _
    | exact LeO.none _
    | refine LeO.ite ?_ ?_
    | refine LeO.bind ?_ (fun _ => ?_)
theorem spec_KeepPods.mono : ∀ a0 a1 k, LeO (spec_KeepPods.f k a0 a1) (spec_KeepPods.f (k + 1) a0 a1) := by
 intro a0 a1 k
 obtain ⟨ih0, ih1, ih2⟩ := spec_KeepPods.mono_l k
 unfold spec_KeepPods.f
 repeat' first
  | (with_reducible exact ih0 _ _ _)
  | (with_reducible exact ih1 _ _ _ _)
  | (with_reducible exact ih2 _ _ _ _ _ _)
  | (with_reducible exact spec_StoreOk.mono _ _)
  | (with_reducible exact spec_l03Copy.mono _ _)
  | (with_reducible exact LeO.refl _)
  | (with_reducible exact LeO.none _)
  | (with_reducible refine LeO.ite ?_ ?_)
  | (with_reducible refine LeO.bind ?_ (fun _ => ?_))
  | exact ih0 _ _ _
  | exact ih1 _ _ _ _
  | exact ih2 _ _ _ _ _ _
  | exact spec_StoreOk.mono _ _
  | exact spec_l03Copy.mono _ _
  | exact LeO.none _
  | refine LeO.ite ?_ ?_
  | refine LeO.bind ?_ (fun _ => ?_)
set_option maxHeartbeats 8000000 in
set_option maxRecDepth 100000 in
theorem spec_KeepPods.calls (k : Nat) (A0 : Option Addr) (c0 : Nat) (l0 : List (S81)) (A1 : Option Addr) (c1 : Nat) (l1 : List ByteArray) (r1 : List (S81)) (r2 : Bool) (w : World) (hr0 : Kd.C k81 w A0 l0.length l0) (hc0 : l0.length ≤ c0) (hr1 : Kd.C Kd.string w A1 l1.length l1) (hc1 : l1.length ≤ c1) (h : spec_KeepPods.f k l0 l1 = some (r1, r2)) :
 Calls Try.prog 28 #[.slice A0 l0.length c0, .slice A1 l1.length c1] w fun e w' => ∃ v0_ : Value, e = .returned (.tuple #[v0_, .bool r2]) ∧ Kd.N k81 81 w' w.heap.size (fun k_ => (w.heap.size ≤ k_)) v0_ r1 ∧ Below w.heap.size w w' := by
 have hu81 := Try.underlying81
 have HR0 := Aside0.mk hr0
 have HC0 := Aside0.mk hc0
 clear hr0 hc0
 have HR1 := Aside0.mk hr1
 have HC1 := Aside0.mk hc1
 clear hr1 hc1
 have HB := Aside0.mk (Below.refl w.heap.size w)
 have H : ((spec_l03Copy.f k l0).bind fun t327 => ((spec_StoreOk.f k l0).bind fun t330 => (if t330 = true then (spec_KeepPods.j0 k l1 t327 (decide ((l1.length : Int) > 300))) else (spec_KeepPods.j0 k l1 t327 true)))) = some (r1, r2) := h
 clear h
 obtain ⟨t327, A30, H⟩ := bo H
 have A3 := Aside0.mk A30
 clear A30
 have HC4 := Aside0.mk H
 clear H
 go_enter Try.func28, Try.ntmps28
 go_upto_region 2 with (first | (go_at_call 79; (with_reducible refine (spec_l03Copy.calls k _ _ l0 t327 _ ?side1 ?side2 A3.out).mono ?_); (case side1 => repeat (first | exact HR0.out | (with_reducible refine Kd.C_alloc ?_ _) | (with_reducible refine Kd.C_drewN ?_ _) | (with_reducible refine Kd.C_drew ?_))); (case side2 => exact HC0.out); rintro e w5 ⟨v328, rfl, ho0, hb⟩; have HO329 := ak (Kd.N_lower (Kd.N_mono (ok' := fun k_ => (w.heap.size ≤ k_)) (Kd.S_N (Kd.S_bound ho0)) (fun k_ hk_ => (Nat.le_trans (below_size bl) hk_.2.1))) (below_size bl)); replace HB := ak (below_step bl hb); (try clear hb); (try clear hb2); (try clear hk); (try clear hi); (try clear ho0)))
 repeat (go_quiet (first | (go_at_call 79; (with_reducible refine (spec_l03Copy.calls k _ _ l0 t327 _ ?side1 ?side2 A3.out).mono ?_); (case side1 => repeat (first | exact HR0.out | (with_reducible refine Kd.C_alloc ?_ _) | (with_reducible refine Kd.C_drewN ?_ _) | (with_reducible refine Kd.C_drew ?_))); (case side2 => exact HC0.out); rintro e w5 ⟨v328, rfl, ho0, hb⟩; have HO329 := ak (Kd.N_lower (Kd.N_mono (ok' := fun k_ => (w.heap.size ≤ k_)) (Kd.S_N (Kd.S_bound ho0)) (fun k_ hk_ => (Nat.le_trans (below_size bl) hk_.2.1))) (below_size bl)); replace HB := ak (below_step bl hb); (try clear hb); (try clear hb2); (try clear hk); (try clear hi); (try clear ho0))); go_upto_region 2 with (first | (go_at_call 79; (with_reducible refine (spec_l03Copy.calls k _ _ l0 t327 _ ?side1 ?side2 A3.out).mono ?_); (case side1 => repeat (first | exact HR0.out | (with_reducible refine Kd.C_alloc ?_ _) | (with_reducible refine Kd.C_drewN ?_ _) | (with_reducible refine Kd.C_drew ?_))); (case side2 => exact HC0.out); rintro e w5 ⟨v328, rfl, ho0, hb⟩; have HO329 := ak (Kd.N_lower (Kd.N_mono (ok' := fun k_ => (w.heap.size ≤ k_)) (Kd.S_N (Kd.S_bound ho0)) (fun k_ hk_ => (Nat.le_trans (below_size bl) hk_.2.1))) (below_size bl)); replace HB := ak (below_step bl hb); (try clear hb); (try clear hb2); (try clear hk); (try clear hi); (try clear ho0))))
 (try simp only [Act.put, List.setIfInBounds_toArray, List.set_cons_zero, List.set_cons_succ])
 go_cut [20] (fun v20 wc => ∃ (kq : Nat) (x20_3 : Bool), v20 = .bool x20_3 ∧ Aside0 (spec_KeepPods.j0 kq l1 t327 x20_3 = some (r1, r2)) ∧ Aside0 (kq ≤ k) ∧ Aside0 (Kd.N k81 81 wc w.heap.size (fun k_ => (w.heap.size ≤ k_)) v328 t327) ∧ Aside0 (Below w.heap.size w wc))
 case first =>
  have H := HC4.out
  clear HC4
  obtain ⟨t330, A60, H⟩ := bo H
  have A6 := Aside0.mk A60
  clear A60
  by_cases c7 : t330 = true
  · subst c7
    replace H := iT H
    have H' := Aside0.mk H
    clear H
    go_wp2_with (first | (go_at_call 16; (with_reducible refine (spec_StoreOk.calls k _ _ l0 true _ ?side1 ?side2 A6.out).mono ?_); (case side1 => exact cb HR0); (case side2 => exact HC0.out); rintro e w8 ⟨rfl, hb⟩; replace HO329 := ak (Kd.N_below (by (with_reducible repeat (first | apply Kd.N_alloc | apply Kd.N_drewN | apply Kd.N_drew)); exact HO329.out) hb); replace HB := ak (below_step bl hb); (try clear hb); (try clear hb2); (try clear hk); (try clear hi)))
    repeat (go_quiet (first | (go_at_call 16; (with_reducible refine (spec_StoreOk.calls k _ _ l0 true _ ?side1 ?side2 A6.out).mono ?_); (case side1 => exact cb HR0); (case side2 => exact HC0.out); rintro e w8 ⟨rfl, hb⟩; replace HO329 := ak (Kd.N_below (by (with_reducible repeat (first | apply Kd.N_alloc | apply Kd.N_drewN | apply Kd.N_drew)); exact HO329.out) hb); replace HB := ak (below_step bl hb); (try clear hb); (try clear hb2); (try clear hk); (try clear hi))); try go_wp2_with (first | (go_at_call 16; (with_reducible refine (spec_StoreOk.calls k _ _ l0 true _ ?side1 ?side2 A6.out).mono ?_); (case side1 => exact cb HR0); (case side2 => exact HC0.out); rintro e w8 ⟨rfl, hb⟩; replace HO329 := ak (Kd.N_below (by (with_reducible repeat (first | apply Kd.N_alloc | apply Kd.N_drewN | apply Kd.N_drew)); exact HO329.out) hb); replace HB := ak (below_step bl hb); (try clear hb); (try clear hb2); (try clear hk); (try clear hi))))
    go_meet
    case rel => exact ⟨_, (decide ((l1.length : Int) > 300)), es, H', ⟨by first | omega | exact Nat.le_refl _⟩, ⟨by (with_reducible repeat (first | apply Kd.N_alloc | apply Kd.N_drewN | apply Kd.N_drew)); exact HO329.out⟩, ⟨bl⟩⟩
  · replace c7 := Bool.eq_false_iff.mpr c7
    subst c7
    replace H := iF H
    have H' := Aside0.mk H
    clear H
    go_wp2_with (first | (go_at_call 16; (with_reducible refine (spec_StoreOk.calls k _ _ l0 false _ ?side1 ?side2 A6.out).mono ?_); (case side1 => exact cb HR0); (case side2 => exact HC0.out); rintro e w9 ⟨rfl, hb⟩; replace HO329 := ak (Kd.N_below (by (with_reducible repeat (first | apply Kd.N_alloc | apply Kd.N_drewN | apply Kd.N_drew)); exact HO329.out) hb); replace HB := ak (below_step bl hb); (try clear hb); (try clear hb2); (try clear hk); (try clear hi)))
    repeat (go_quiet (first | (go_at_call 16; (with_reducible refine (spec_StoreOk.calls k _ _ l0 false _ ?side1 ?side2 A6.out).mono ?_); (case side1 => exact cb HR0); (case side2 => exact HC0.out); rintro e w9 ⟨rfl, hb⟩; replace HO329 := ak (Kd.N_below (by (with_reducible repeat (first | apply Kd.N_alloc | apply Kd.N_drewN | apply Kd.N_drew)); exact HO329.out) hb); replace HB := ak (below_step bl hb); (try clear hb); (try clear hb2); (try clear hk); (try clear hi))); try go_wp2_with (first | (go_at_call 16; (with_reducible refine (spec_StoreOk.calls k _ _ l0 false _ ?side1 ?side2 A6.out).mono ?_); (case side1 => exact cb HR0); (case side2 => exact HC0.out); rintro e w9 ⟨rfl, hb⟩; replace HO329 := ak (Kd.N_below (by (with_reducible repeat (first | apply Kd.N_alloc | apply Kd.N_drewN | apply Kd.N_drew)); exact HO329.out) hb); replace HB := ak (below_step bl hb); (try clear hb); (try clear hb2); (try clear hk); (try clear hi))))
    go_meet
    case rel => exact ⟨_, (true), es, H', ⟨by first | omega | exact Nat.le_refl _⟩, ⟨by (with_reducible repeat (first | apply Kd.N_alloc | apply Kd.N_drewN | apply Kd.N_drew)); exact HO329.out⟩, ⟨bl⟩⟩
 case rest =>
  clear HC4
  try clear c1
  try clear c2
  try clear p2
  try clear c7
  obtain ⟨kq, x20_3, rfl, HA, HJ3, HO_6, HB⟩ := hcut
  cases kq with
  | zero => exact absurd HA.out (by simp [spec_KeepPods.j0])
  | succ kj3 =>
   have H := HA.out
   clear HA
   simp only [spec_KeepPods.j0] at H
   by_cases c10 : x20_3 = true
   · subst c10
     replace H := iT H
     simp only [Option.some.injEq, Prod.mk.injEq] at H
     obtain ⟨rfl, rfl⟩ := H
     go_wp2
     repeat (go_quiet (fail); try go_wp2)
     go_ret2
     exact ⟨_, ew, by (with_reducible repeat (first | apply Kd.N_alloc | apply Kd.N_drewN | apply Kd.N_drew)); exact HO_6.out, bl⟩
   · replace c10 := Bool.eq_false_iff.mpr c10
     subst c10
     replace H := iF H
     obtain ⟨y331, hy331⟩ : ∃ y_ : List (S81), y_ = (([] : List (S81))) := ⟨_, rfl⟩
     replace H : (spec_KeepPods.l0 kj3 l1 t327 y331 0) = some (r1, r2) := by first | (rw [hy331]; with_reducible exact H) | (have H2_ := (Option.bind_some _ _).symm.trans H; rw [hy331]; with_reducible exact H2_) | (have H2_ := (Option.bind_some _ _).symm.trans H; with_reducible exact H2_) | with_reducible exact H | (rw [hy331]; exact H) | exact H
     have Ny331 := Aside0.mk hy331
     clear hy331
     have H' := Aside0.mk H
     clear H
     go_wp2_with (first | ((with_reducible refine gate_dst (N := 22) rfl ?_); (try (refine gate_guard (by rfl) ?_; dsimp only)); refine Kd.N_lit k81 _ 81 ?hg (N' := 22) ?hd (xs := ([] : List (S81))) (inner := []) (ok := (fun k_ => (w.heap.size ≤ k_) ∧ some k_ ≠ (v328 : Value).ownBlock)) (okp := (fun k_ => (w.heap.size ≤ k_) ∧ some k_ ≠ (v328 : Value).ownBlock)) ?hr ?hp (fun _ hk => hk) ((show ∀ k_, wc.heap.size ≤ k_ → (fun k_ => (w.heap.size ≤ k_) ∧ some k_ ≠ (v328 : Value).ownBlock) k_ from fun k_ hk => ⟨(Nat.le_trans (below_size bl) hk), Kd.fresh' (Kd.N_lt (by (with_reducible repeat (first | apply Kd.N_alloc | apply Kd.N_drewN | apply Kd.N_drew)); exact HO_6.out)) k_ hk⟩) _ (Nat.le_refl _)) (Below.refl _ _) (Nat.le_refl _) (by simp) ?_; (case hd => rfl); (case hg => rfl); (case hr => first | (go_simp; done) | (go_simp; rfl)); (case hp => exact (Reps.none _ _)); intro v332 w11 ho12 hb hg_ hnew_; clear hg_ hnew_; (first | rw [← Ny331.out] at ho12 | (simp only [Int.reduceToNat] at ho12; rw [← Ny331.out] at ho12)); replace HO_6 := ak (Kd.N_elder' (by (with_reducible repeat (first | apply Kd.N_alloc | apply Kd.N_drewN | apply Kd.N_drew)); exact HO_6.out) (Kd.N_base ho12) hb); have HO333 := ak (Kd.N_lower ho12 (below_size bl)); replace HB := ak (below_step bl hb); clear hb ho12))
     repeat (go_quiet (first | ((with_reducible refine gate_dst (N := 22) rfl ?_); (try (refine gate_guard (by rfl) ?_; dsimp only)); refine Kd.N_lit k81 _ 81 ?hg (N' := 22) ?hd (xs := ([] : List (S81))) (inner := []) (ok := (fun k_ => (w.heap.size ≤ k_) ∧ some k_ ≠ (v328 : Value).ownBlock)) (okp := (fun k_ => (w.heap.size ≤ k_) ∧ some k_ ≠ (v328 : Value).ownBlock)) ?hr ?hp (fun _ hk => hk) ((show ∀ k_, wc.heap.size ≤ k_ → (fun k_ => (w.heap.size ≤ k_) ∧ some k_ ≠ (v328 : Value).ownBlock) k_ from fun k_ hk => ⟨(Nat.le_trans (below_size bl) hk), Kd.fresh' (Kd.N_lt (by (with_reducible repeat (first | apply Kd.N_alloc | apply Kd.N_drewN | apply Kd.N_drew)); exact HO_6.out)) k_ hk⟩) _ (Nat.le_refl _)) (Below.refl _ _) (Nat.le_refl _) (by simp) ?_; (case hd => rfl); (case hg => rfl); (case hr => first | (go_simp; done) | (go_simp; rfl)); (case hp => exact (Reps.none _ _)); intro v332 w11 ho12 hb hg_ hnew_; clear hg_ hnew_; (first | rw [← Ny331.out] at ho12 | (simp only [Int.reduceToNat] at ho12; rw [← Ny331.out] at ho12)); replace HO_6 := ak (Kd.N_elder' (by (with_reducible repeat (first | apply Kd.N_alloc | apply Kd.N_drewN | apply Kd.N_drew)); exact HO_6.out) (Kd.N_base ho12) hb); have HO333 := ak (Kd.N_lower ho12 (below_size bl)); replace HB := ak (below_step bl hb); clear hb ho12)); try go_wp2_with (first | ((with_reducible refine gate_dst (N := 22) rfl ?_); (try (refine gate_guard (by rfl) ?_; dsimp only)); refine Kd.N_lit k81 _ 81 ?hg (N' := 22) ?hd (xs := ([] : List (S81))) (inner := []) (ok := (fun k_ => (w.heap.size ≤ k_) ∧ some k_ ≠ (v328 : Value).ownBlock)) (okp := (fun k_ => (w.heap.size ≤ k_) ∧ some k_ ≠ (v328 : Value).ownBlock)) ?hr ?hp (fun _ hk => hk) ((show ∀ k_, wc.heap.size ≤ k_ → (fun k_ => (w.heap.size ≤ k_) ∧ some k_ ≠ (v328 : Value).ownBlock) k_ from fun k_ hk => ⟨(Nat.le_trans (below_size bl) hk), Kd.fresh' (Kd.N_lt (by (with_reducible repeat (first | apply Kd.N_alloc | apply Kd.N_drewN | apply Kd.N_drew)); exact HO_6.out)) k_ hk⟩) _ (Nat.le_refl _)) (Below.refl _ _) (Nat.le_refl _) (by simp) ?_; (case hd => rfl); (case hg => rfl); (case hr => first | (go_simp; done) | (go_simp; rfl)); (case hp => exact (Reps.none _ _)); intro v332 w11 ho12 hb hg_ hnew_; clear hg_ hnew_; (first | rw [← Ny331.out] at ho12 | (simp only [Int.reduceToNat] at ho12; rw [← Ny331.out] at ho12)); replace HO_6 := ak (Kd.N_elder' (by (with_reducible repeat (first | apply Kd.N_alloc | apply Kd.N_drewN | apply Kd.N_drew)); exact HO_6.out) (Kd.N_base ho12) hb); have HO333 := ak (Kd.N_lower ho12 (below_size bl)); replace HB := ak (below_step bl hb); clear hb ho12)))
     go_loopg [7, 8] kj3 (fun kq v7 v8 w' => ∃ (x7_2 : List (S81)) (x8_2 : Int), v8 = .int .i64 x8_2 ∧ Aside0 (spec_KeepPods.l0 kq l1 t327 x7_2 x8_2 = some (r1, r2)) ∧ Aside0 (kq ≤ kj3) ∧ Aside0 (Kd.N k81 81 w' w.heap.size (fun k_ => (w.heap.size ≤ k_) ∧ some k_ ≠ (v7 : Value).ownBlock) v328 t327) ∧ Aside0 (Kd.N k81 81 w' w.heap.size (fun k_ => (w.heap.size ≤ k_) ∧ some k_ ≠ (v328 : Value).ownBlock) v7 x7_2) ∧ Aside0 (Below w.heap.size w w'))
     case atStart => exact ⟨(y331), (0), es, H', ⟨Nat.le_refl _⟩, ⟨by (with_reducible repeat (first | apply Kd.N_alloc | apply Kd.N_drewN | apply Kd.N_drew)); exact HO_6.out⟩, ⟨by (with_reducible repeat (first | apply Kd.N_alloc | apply Kd.N_drewN | apply Kd.N_drew)); exact HO333.out⟩, ⟨bl⟩⟩
     case round =>
      clear H'
      try clear c1
      try clear c2
      try clear p2
      try clear c7
      try clear c10
      try clear p2
      obtain ⟨x7_2, x8_2, rfl, HA, HK2, HO_6, HO_7, HB⟩ := hrel
      cases gk with
      | zero => exact absurd HA.out (by simp [spec_KeepPods.l0])
      | succ k2 =>
       have H := HA.out
       clear HA
       simp only [spec_KeepPods.l0] at H
       by_cases c13 : x8_2 < (t327.length : Int)
       · rw [if_pos c13] at H
         have c13b0 : decide (x8_2 < (t327.length : Int)) = true := decide_eq_true c13
         clear c13
         have H' := Aside0.mk H
         clear H
         obtain ⟨Ao14, co14, eo14⟩ := Kd.N_slice HO_6.out
         subst eo14
         go_wp2
         repeat (go_quiet (fail); try go_wp2)
         go_loopg [9, 10] k2 (fun kq v9 v10 w' => ∃ (x9_3 : Bool) (x10_3 : Int), v9 = .bool x9_3 ∧ v10 = .int .i64 x10_3 ∧ Aside0 (spec_KeepPods.l1 kq l1 t327 x7_2 x8_2 x9_3 x10_3 = some (r1, r2)) ∧ Aside0 (kq ≤ k2) ∧ Aside0 (Kd.N k81 81 w' w.heap.size (fun k_ => (w.heap.size ≤ k_) ∧ some k_ ≠ (u7 : Value).ownBlock) (.slice Ao14 t327.length co14) t327) ∧ Aside0 (Kd.N k81 81 w' w.heap.size (fun k_ => (w.heap.size ≤ k_) ∧ some k_ ≠ ((.slice Ao14 t327.length co14) : Value).ownBlock) u7 x7_2) ∧ Aside0 (Below w.heap.size w w'))
         case atStart => exact ⟨(false), (0), es, es, H', ⟨Nat.le_refl _⟩, ⟨by (with_reducible repeat (first | apply Kd.N_alloc | apply Kd.N_drewN | apply Kd.N_drew)); exact HO_6.out⟩, ⟨by (with_reducible repeat (first | apply Kd.N_alloc | apply Kd.N_drewN | apply Kd.N_drew)); exact HO_7.out⟩, ⟨bl⟩⟩
         case round =>
          clear H'
          try clear c1
          try clear c2
          try clear p2
          try clear c7
          try clear c10
          try clear c13
          try clear c13b0
          try clear p2
          obtain ⟨x9_3, x10_3, rfl, rfl, HA, HK3, HO_6, HO_7, HB⟩ := hrel
          cases gk with
          | zero => exact absurd HA.out (by simp [spec_KeepPods.l1])
          | succ k3 =>
           have H := HA.out
           clear HA
           simp only [spec_KeepPods.l1] at H
           by_cases c15 : x10_3 < (l1.length : Int)
           · rw [if_pos c15] at H
             have c15b0 : decide (x10_3 < (l1.length : Int)) = true := decide_eq_true c15
             clear c15
             by_cases c16 : x9_3 = true
             · subst c16
               replace H := iT H
               have H' := Aside0.mk H
               clear H
               go_wp2
               repeat (go_quiet (fail); try go_wp2)
               go_roundg k3
               case measure => have := HJ3.out; have := HK2.out; have := HK3.out; omega
               case rel => exact ⟨(true), (wrap64 (x10_3 + 1)), es, es, H', ⟨by have := HJ3.out; have := HK2.out; have := HK3.out; omega⟩, ⟨by (with_reducible repeat (first | apply Kd.N_alloc | apply Kd.N_drewN | apply Kd.N_drew)); exact HO_6.out⟩, ⟨by (with_reducible repeat (first | apply Kd.N_alloc | apply Kd.N_drewN | apply Kd.N_drew)); exact HO_7.out⟩, ⟨bl⟩⟩
             · replace c16 := Bool.eq_false_iff.mpr c16
               subst c16
               replace H := iF H
               by_cases c17 : 0 ≤ x10_3
               · rw [if_pos c17] at H
                 have c17b0 : decide (0 ≤ x10_3) = true := decide_eq_true c17
                 clear c17
                 by_cases c18 : 0 ≤ x8_2
                 · rw [if_pos c18] at H
                   have c18b0 : decide (0 ≤ x8_2) = true := decide_eq_true c18
                   clear c18
                   by_cases c19 : x8_2 < (t327.length : Int)
                   · rw [if_pos c19] at H
                     have c19b0 : decide (x8_2 < (t327.length : Int)) = true := decide_eq_true c19
                     clear c19
                     have H' := Aside0.mk H
                     clear H
                     have p334 : 0 ≤ (x10_3 : Int) := of_decide_eq_true am
                     have q334 : x10_3 < (l1.length : Int) := of_decide_eq_true am
                     obtain ⟨ad334, e334, hx334_0⟩ := Kd.at_string HR1.out x10_3 p334 q334
                     cases e334
                     replace hx334_0 := cw hx334_0
                     replace p334 := eq_true p334
                     replace q334 := eq_true q334
                     have p335 : 0 ≤ (x8_2 : Int) := of_decide_eq_true am
                     have q335 : x8_2 < (t327.length : Int) := of_decide_eq_true am
                     obtain ⟨ad335, A335_2, c335_2, e335, hx335_0, hx335_1, hx335_2, hl335_2, hi335_2⟩ := at_T81 (Kd.N_reads' HO_6.out).2.2 x8_2 p335 q335
                     cases e335
                     obtain ⟨ce335, hce335, hMe335, hcc335⟩ := Kd.N_get HO_6.out z81 x8_2 p335 (by first | exact q335 | exact of_decide_eq_true am | (have e_ := (Kd.N_reads' HO_6.out).1; omega))
                     obtain ⟨ua335_2, uc335_2, rfl, ul335_2, ge335_2⟩ := k81_openF hMe335
                     have hv335_2 := hcc335 2 _ rfl
                     rw [add_field _ _ 2 (by omega)] at hv335_2
                     replace hv335_2 := Option.some.inj (hv335_2.symm.trans hx335_2)
                     injection hv335_2 with hva_ hvn_ hvc_
                     rw [hva_] at ge335_2
                     rw [hvc_] at ul335_2
                     have HL335_2 := Aside0.mk (show Kd.V k37 37 _ w.heap.size _ _ ((rd_T81 t327 x8_2).f2) from Kd.V_mk ul335_2 ge335_2)
                     clear hva_ hvn_ hvc_ ge335_2 ul335_2
                     clear hcc335 hce335
                     have HR335_2 := Aside0.mk hi335_2
                     have HC335_2 := Aside0.mk hl335_2
                     clear hi335_2 hl335_2
                     replace p335 := eq_true p335
                     replace q335 := eq_true q335
                     go_wp2
                     repeat (go_quiet (fail); try go_wp2)
                     go_roundg k3
                     case measure => have := HJ3.out; have := HK2.out; have := HK3.out; omega
                     case rel => exact ⟨(((rdOf ByteArray.empty l1 x10_3).toList == ((rd_T81 t327 x8_2).f0).toList)), (wrap64 (x10_3 + 1)), es, es, H', ⟨by have := HJ3.out; have := HK2.out; have := HK3.out; omega⟩, ⟨by (with_reducible repeat (first | apply Kd.N_alloc | apply Kd.N_drewN | apply Kd.N_drew)); exact HO_6.out⟩, ⟨by (with_reducible repeat (first | apply Kd.N_alloc | apply Kd.N_drewN | apply Kd.N_drew)); exact HO_7.out⟩, ⟨bl⟩⟩
                   · rw [if_neg c19] at H
                     exact absurd H (by simp)
                 · rw [if_neg c18] at H
                   exact absurd H (by simp)
               · rw [if_neg c17] at H
                 exact absurd H (by simp)
           · rw [if_neg c15] at H
             have c15b0 : decide (x10_3 < (l1.length : Int)) = false := decide_eq_false c15
             clear c15
             by_cases c20 : x9_3 = true
             · subst c20
               replace H := iT H
               by_cases c21 : 0 ≤ x8_2
               · rw [if_pos c21] at H
                 have c21b0 : decide (0 ≤ x8_2) = true := decide_eq_true c21
                 clear c21
                 by_cases c22 : x8_2 < (t327.length : Int)
                 · rw [if_pos c22] at H
                   have c22b0 : decide (x8_2 < (t327.length : Int)) = true := decide_eq_true c22
                   clear c22
                   by_cases c23 : x7_2.length < 2513169434916
                   · rw [if_pos c23] at H
                     have LMc23 := Aside0.mk c23
                     clear c23
                     obtain ⟨y337, hy337⟩ : ∃ y_ : List (S81), y_ = (x7_2 ++ [(⟨(rd_T81 t327 x8_2).f0, (rd_T81 t327 x8_2).f1, (rd_T81 t327 x8_2).f2⟩ : S81)]) := ⟨_, rfl⟩
                     replace H : (spec_KeepPods.l0 k3 l1 t327 y337 (wrap64 (x8_2 + 1))) = some (r1, r2) := by first | (rw [hy337]; with_reducible exact H) | (have H2_ := (Option.bind_some _ _).symm.trans H; rw [hy337]; with_reducible exact H2_) | (have H2_ := (Option.bind_some _ _).symm.trans H; with_reducible exact H2_) | with_reducible exact H | (rw [hy337]; exact H) | exact H
                     have Ny337 := Aside0.mk hy337
                     clear hy337
                     have H' := Aside0.mk H
                     clear H
                     have p336 : 0 ≤ (x8_2 : Int) := of_decide_eq_true am
                     have q336 : x8_2 < (t327.length : Int) := of_decide_eq_true am
                     obtain ⟨ad336, A336_2, c336_2, e336, hx336_0, hx336_1, hx336_2, hl336_2, hi336_2⟩ := at_T81 (Kd.N_reads' HO_6.out).2.2 x8_2 p336 q336
                     cases e336
                     obtain ⟨ce336, hce336, hMe336, hcc336⟩ := Kd.N_get HO_6.out z81 x8_2 p336 (by first | exact q336 | exact of_decide_eq_true am | (have e_ := (Kd.N_reads' HO_6.out).1; omega))
                     obtain ⟨ua336_2, uc336_2, rfl, ul336_2, ge336_2⟩ := k81_openF hMe336
                     have hv336_2 := hcc336 2 _ rfl
                     rw [add_field _ _ 2 (by omega)] at hv336_2
                     replace hv336_2 := Option.some.inj (hv336_2.symm.trans hx336_2)
                     injection hv336_2 with hva_ hvn_ hvc_
                     rw [hva_] at ge336_2
                     rw [hvc_] at ul336_2
                     have HL336_2 := Aside0.mk (show Kd.V k37 37 _ w.heap.size _ _ ((rd_T81 t327 x8_2).f2) from Kd.V_mk ul336_2 ge336_2)
                     clear hva_ hvn_ hvc_ ge336_2 ul336_2
                     clear hcc336 hce336
                     have HR336_2 := Aside0.mk hi336_2
                     have HC336_2 := Aside0.mk hl336_2
                     clear hi336_2 hl336_2
                     replace p336 := eq_true p336
                     replace q336 := eq_true q336
                     go_wp2_with (first | ((with_reducible refine gate_builtin (b := .append) (xs := #[.tmp 49, .tmp 54]) rfl ?_); (try (refine gate_guard (by rfl) ?_; dsimp only)); at_builtin; refine Kd.N_append k81 (w0 := w) w.heap.size rfl (.tmp 49) (.tmp 54) 24 81 (.agg #[(.string ⟨#[]⟩), (.string ⟨#[]⟩), (.slice none 0 0)]) 56 rfl Try.underlying24 info81 rfl (by decide) (by omega) u7 x7_2 (⟨(rd_T81 t327 x8_2).f0, (rd_T81 t327 x8_2).f1, (rd_T81 t327 x8_2).f2⟩ : S81) [.string ((rd_T81 t327 x8_2).f0), .string ((rd_T81 t327 x8_2).f1), .slice A336_2 ((rd_T81 t327 x8_2).f2).length c336_2] (fun k_ => (w.heap.size ≤ k_) ∧ some k_ ≠ (.slice (some ad336) t327.length co14 : Value).ownBlock) (fun k_ => ((fun k_ => (w.heap.size ≤ k_) ∧ some k_ ≠ (.slice (some ad336) t327.length co14 : Value).ownBlock)) k_ ∧ some k_ ≠ (u7 : Value).ownBlock) rfl rfl ?aP (fun _ hk => hk) ?aF ?aO ?aB ?aS ?aL ?_; (case aP => exact (k81_mkF _ _ (⟨(rd_T81 t327 x8_2).f0, (rd_T81 t327 x8_2).f1, (rd_T81 t327 x8_2).f2⟩ : S81) (Kd.V_reads' (Kd.V_mono (ok' := (fun k_ => ((fun k_ => (w.heap.size ≤ k_) ∧ some k_ ≠ (.slice (some ad336) t327.length co14 : Value).ownBlock)) k_ ∧ some k_ ≠ (u7 : Value).ownBlock)) (HL336_2.out) (fun k_ hk => ⟨⟨hk.1.1, hk.2⟩, hk.1.2⟩))).2.1 (Kd.V_F (Kd.V_mono (ok' := (fun k_ => ((fun k_ => (w.heap.size ≤ k_) ∧ some k_ ≠ (.slice (some ad336) t327.length co14 : Value).ownBlock)) k_ ∧ some k_ ≠ (u7 : Value).ownBlock)) (HL336_2.out) (fun k_ hk => ⟨⟨hk.1.1, hk.2⟩, hk.1.2⟩))))); (case aB => exact bl); (case aF => exact (fun k_ hk => ⟨(Nat.le_trans (below_size bl) hk), Kd.fresh' (Kd.N_lt (by (with_reducible repeat (first | apply Kd.N_alloc | apply Kd.N_drewN | apply Kd.N_drew)); exact HO_6.out)) k_ hk⟩)); (case aO => exact (by (with_reducible repeat (first | apply Kd.N_alloc | apply Kd.N_drewN | apply Kd.N_drew)); exact HO_7.out)); (case aS => exact (below_size bl)); (case aL => have := LMc23.out; omega); intro v338 w24 ho hb hg hat; rw [← Ny337.out] at ho; replace HO_6 := ak (Kd.N_afterv (ok := (fun k_ => (w.heap.size ≤ k_))) (by (with_reducible repeat (first | apply Kd.N_alloc | apply Kd.N_drewN | apply Kd.N_drew)); exact HO_6.out) hg hat); replace HL336_2 := ak (Kd.V_afterv (ok := (fun k_ => (w.heap.size ≤ k_) ∧ some k_ ≠ (.slice (some ad336) t327.length co14 : Value).ownBlock)) (by (with_reducible repeat (first | apply Kd.V_alloc | apply Kd.V_drewN | apply Kd.V_drew)); exact Kd.V_mono HL336_2.out (fun _ hk => ⟨⟨hk.1.1, hk.2⟩, hk.1.2⟩)) hg hat); replace HB := ak hb; have HO339 := ak ho; clear HO_7; clear ho hb hg hat))
                     repeat (go_quiet (first | ((with_reducible refine gate_builtin (b := .append) (xs := #[.tmp 49, .tmp 54]) rfl ?_); (try (refine gate_guard (by rfl) ?_; dsimp only)); at_builtin; refine Kd.N_append k81 (w0 := w) w.heap.size rfl (.tmp 49) (.tmp 54) 24 81 (.agg #[(.string ⟨#[]⟩), (.string ⟨#[]⟩), (.slice none 0 0)]) 56 rfl Try.underlying24 info81 rfl (by decide) (by omega) u7 x7_2 (⟨(rd_T81 t327 x8_2).f0, (rd_T81 t327 x8_2).f1, (rd_T81 t327 x8_2).f2⟩ : S81) [.string ((rd_T81 t327 x8_2).f0), .string ((rd_T81 t327 x8_2).f1), .slice A336_2 ((rd_T81 t327 x8_2).f2).length c336_2] (fun k_ => (w.heap.size ≤ k_) ∧ some k_ ≠ (.slice (some ad336) t327.length co14 : Value).ownBlock) (fun k_ => ((fun k_ => (w.heap.size ≤ k_) ∧ some k_ ≠ (.slice (some ad336) t327.length co14 : Value).ownBlock)) k_ ∧ some k_ ≠ (u7 : Value).ownBlock) rfl rfl ?aP (fun _ hk => hk) ?aF ?aO ?aB ?aS ?aL ?_; (case aP => exact (k81_mkF _ _ (⟨(rd_T81 t327 x8_2).f0, (rd_T81 t327 x8_2).f1, (rd_T81 t327 x8_2).f2⟩ : S81) (Kd.V_reads' (Kd.V_mono (ok' := (fun k_ => ((fun k_ => (w.heap.size ≤ k_) ∧ some k_ ≠ (.slice (some ad336) t327.length co14 : Value).ownBlock)) k_ ∧ some k_ ≠ (u7 : Value).ownBlock)) (HL336_2.out) (fun k_ hk => ⟨⟨hk.1.1, hk.2⟩, hk.1.2⟩))).2.1 (Kd.V_F (Kd.V_mono (ok' := (fun k_ => ((fun k_ => (w.heap.size ≤ k_) ∧ some k_ ≠ (.slice (some ad336) t327.length co14 : Value).ownBlock)) k_ ∧ some k_ ≠ (u7 : Value).ownBlock)) (HL336_2.out) (fun k_ hk => ⟨⟨hk.1.1, hk.2⟩, hk.1.2⟩))))); (case aB => exact bl); (case aF => exact (fun k_ hk => ⟨(Nat.le_trans (below_size bl) hk), Kd.fresh' (Kd.N_lt (by (with_reducible repeat (first | apply Kd.N_alloc | apply Kd.N_drewN | apply Kd.N_drew)); exact HO_6.out)) k_ hk⟩)); (case aO => exact (by (with_reducible repeat (first | apply Kd.N_alloc | apply Kd.N_drewN | apply Kd.N_drew)); exact HO_7.out)); (case aS => exact (below_size bl)); (case aL => have := LMc23.out; omega); intro v338 w24 ho hb hg hat; rw [← Ny337.out] at ho; replace HO_6 := ak (Kd.N_afterv (ok := (fun k_ => (w.heap.size ≤ k_))) (by (with_reducible repeat (first | apply Kd.N_alloc | apply Kd.N_drewN | apply Kd.N_drew)); exact HO_6.out) hg hat); replace HL336_2 := ak (Kd.V_afterv (ok := (fun k_ => (w.heap.size ≤ k_) ∧ some k_ ≠ (.slice (some ad336) t327.length co14 : Value).ownBlock)) (by (with_reducible repeat (first | apply Kd.V_alloc | apply Kd.V_drewN | apply Kd.V_drew)); exact Kd.V_mono HL336_2.out (fun _ hk => ⟨⟨hk.1.1, hk.2⟩, hk.1.2⟩)) hg hat); replace HB := ak hb; have HO339 := ak ho; clear HO_7; clear ho hb hg hat)); try go_wp2_with (first | ((with_reducible refine gate_builtin (b := .append) (xs := #[.tmp 49, .tmp 54]) rfl ?_); (try (refine gate_guard (by rfl) ?_; dsimp only)); at_builtin; refine Kd.N_append k81 (w0 := w) w.heap.size rfl (.tmp 49) (.tmp 54) 24 81 (.agg #[(.string ⟨#[]⟩), (.string ⟨#[]⟩), (.slice none 0 0)]) 56 rfl Try.underlying24 info81 rfl (by decide) (by omega) u7 x7_2 (⟨(rd_T81 t327 x8_2).f0, (rd_T81 t327 x8_2).f1, (rd_T81 t327 x8_2).f2⟩ : S81) [.string ((rd_T81 t327 x8_2).f0), .string ((rd_T81 t327 x8_2).f1), .slice A336_2 ((rd_T81 t327 x8_2).f2).length c336_2] (fun k_ => (w.heap.size ≤ k_) ∧ some k_ ≠ (.slice (some ad336) t327.length co14 : Value).ownBlock) (fun k_ => ((fun k_ => (w.heap.size ≤ k_) ∧ some k_ ≠ (.slice (some ad336) t327.length co14 : Value).ownBlock)) k_ ∧ some k_ ≠ (u7 : Value).ownBlock) rfl rfl ?aP (fun _ hk => hk) ?aF ?aO ?aB ?aS ?aL ?_; (case aP => exact (k81_mkF _ _ (⟨(rd_T81 t327 x8_2).f0, (rd_T81 t327 x8_2).f1, (rd_T81 t327 x8_2).f2⟩ : S81) (Kd.V_reads' (Kd.V_mono (ok' := (fun k_ => ((fun k_ => (w.heap.size ≤ k_) ∧ some k_ ≠ (.slice (some ad336) t327.length co14 : Value).ownBlock)) k_ ∧ some k_ ≠ (u7 : Value).ownBlock)) (HL336_2.out) (fun k_ hk => ⟨⟨hk.1.1, hk.2⟩, hk.1.2⟩))).2.1 (Kd.V_F (Kd.V_mono (ok' := (fun k_ => ((fun k_ => (w.heap.size ≤ k_) ∧ some k_ ≠ (.slice (some ad336) t327.length co14 : Value).ownBlock)) k_ ∧ some k_ ≠ (u7 : Value).ownBlock)) (HL336_2.out) (fun k_ hk => ⟨⟨hk.1.1, hk.2⟩, hk.1.2⟩))))); (case aB => exact bl); (case aF => exact (fun k_ hk => ⟨(Nat.le_trans (below_size bl) hk), Kd.fresh' (Kd.N_lt (by (with_reducible repeat (first | apply Kd.N_alloc | apply Kd.N_drewN | apply Kd.N_drew)); exact HO_6.out)) k_ hk⟩)); (case aO => exact (by (with_reducible repeat (first | apply Kd.N_alloc | apply Kd.N_drewN | apply Kd.N_drew)); exact HO_7.out)); (case aS => exact (below_size bl)); (case aL => have := LMc23.out; omega); intro v338 w24 ho hb hg hat; rw [← Ny337.out] at ho; replace HO_6 := ak (Kd.N_afterv (ok := (fun k_ => (w.heap.size ≤ k_))) (by (with_reducible repeat (first | apply Kd.N_alloc | apply Kd.N_drewN | apply Kd.N_drew)); exact HO_6.out) hg hat); replace HL336_2 := ak (Kd.V_afterv (ok := (fun k_ => (w.heap.size ≤ k_) ∧ some k_ ≠ (.slice (some ad336) t327.length co14 : Value).ownBlock)) (by (with_reducible repeat (first | apply Kd.V_alloc | apply Kd.V_drewN | apply Kd.V_drew)); exact Kd.V_mono HL336_2.out (fun _ hk => ⟨⟨hk.1.1, hk.2⟩, hk.1.2⟩)) hg hat); replace HB := ak hb; have HO339 := ak ho; clear HO_7; clear ho hb hg hat)))
                     go_roundg k3
                     case measure => have := HJ3.out; have := HK2.out; have := HK3.out; omega
                     case rel => exact ⟨(y337), (wrap64 (x8_2 + 1)), es, H', ⟨by have := HJ3.out; have := HK2.out; have := HK3.out; omega⟩, ⟨by (with_reducible repeat (first | apply Kd.N_alloc | apply Kd.N_drewN | apply Kd.N_drew)); exact HO_6.out⟩, ⟨by (with_reducible repeat (first | apply Kd.N_alloc | apply Kd.N_drewN | apply Kd.N_drew)); exact HO339.out⟩, ⟨bl⟩⟩
                   · rw [if_neg c23] at H
                     exact absurd H (by simp)
                 · rw [if_neg c22] at H
                   exact absurd H (by simp)
               · rw [if_neg c21] at H
                 exact absurd H (by simp)
             · replace c20 := Bool.eq_false_iff.mpr c20
               subst c20
               replace H := iF H
               have H' := Aside0.mk H
               clear H
               go_wp2
               repeat (go_quiet (fail); try go_wp2)
               go_roundg k3
               case measure => have := HJ3.out; have := HK2.out; have := HK3.out; omega
               case rel => exact ⟨(x7_2), (wrap64 (x8_2 + 1)), es, H', ⟨by have := HJ3.out; have := HK2.out; have := HK3.out; omega⟩, ⟨by (with_reducible repeat (first | apply Kd.N_alloc | apply Kd.N_drewN | apply Kd.N_drew)); exact HO_6.out⟩, ⟨by (with_reducible repeat (first | apply Kd.N_alloc | apply Kd.N_drewN | apply Kd.N_drew)); exact HO_7.out⟩, ⟨bl⟩⟩
       · rw [if_neg c13] at H
         have c13b0 : decide (x8_2 < (t327.length : Int)) = false := decide_eq_false c13
         clear c13
         simp only [Option.some.injEq, Prod.mk.injEq] at H
         obtain ⟨rfl, rfl⟩ := H
         obtain ⟨Ao25, co25, eo25⟩ := Kd.N_slice HO_6.out
         subst eo25
         go_wp2
         repeat (go_quiet (fail); try go_wp2)
         go_ret2
         exact ⟨_, ew, by (with_reducible repeat (first | apply Kd.N_alloc | apply Kd.N_drewN | apply Kd.N_drew)); exact Kd.N_mono HO_7.out (fun _ hk => hk.1), bl⟩

end Go.Proofs.Ytplekidnlofioaa.Q
namespace Go.Proofs.Ytplekidnlofioaa.Q
open Go.RowKit Go.Proofs.YtplekidnlofioaaW.PrintWords Go.Proofs.YtplekidnlofioaaW.PrintLast Go.Proofs.YtplekidnlofioaaW.PrintMore
attribute [local go_sem] max2_int min2_int max_two min_two max_three min_three max_four min_four   -- for this text's walks alone
set_option linter.unusedVariables false
set_option linter.unusedSimpArgs false

/-! ### slices_Index_string_string: function 133 -/
def slices_Index_string_string.l0 : Nat → List ByteArray → ByteArray → Int → Int → Option (Int)
 | 0, _, _, _, _ => none
 | k + 1, x0, x1, x7, x8 => if x8 < x7 then (if 0 ≤ x8 then (if x8 < (x0.length : Int) then (if x1.toList = (rdOf ByteArray.empty x0 x8).toList then (some x8) else (slices_Index_string_string.l0 k x0 x1 x7 (wrap64 (x8 + 1)))) else (none)) else (none)) else (some (-1))
def slices_Index_string_string.f (k : Nat) (l0 : List ByteArray) (a1 : ByteArray) : Option (Int) := slices_Index_string_string.l0 k l0 a1 (l0.length : Int) 0
theorem slices_Index_string_string.mono_l : ∀ k, (∀ y0 y1 y2 y3, LeO (slices_Index_string_string.l0 k y0 y1 y2 y3) (slices_Index_string_string.l0 (k + 1) y0 y1 y2 y3))
 | 0 => fun _ _ _ _ r h => by simp [slices_Index_string_string.l0] at h
 | k + 1 => by
  have ih0 := slices_Index_string_string.mono_l k
  · intro y0 y1 y2 y3
    unfold slices_Index_string_string.l0
    repeat' first
    | (with_reducible exact ih0 _ _ _ _)
    | (with_reducible exact LeO.refl _)
    | (with_reducible exact LeO.none _)
    | (with_reducible refine LeO.ite ?_ ?_)
    | (with_reducible refine LeO.bind ?_ (fun _ => ?_))
    | exact ih0 _ _ _ _
    | exact LeO.none _
    | refine LeO.ite ?_ ?_
    | refine LeO.bind ?_ (fun _ => ?_)
theorem slices_Index_string_string.mono : ∀ a0 a1 k, LeO (slices_Index_string_string.f k a0 a1) (slices_Index_string_string.f (k + 1) a0 a1) := by
 intro a0 a1 k
 have ih0 := slices_Index_string_string.mono_l k
 unfold slices_Index_string_string.f
 repeat' first
  | (with_reducible exact ih0 _ _ _ _)
  | (with_reducible exact LeO.refl _)
  | (with_reducible exact LeO.none _)
  | (with_reducible refine LeO.ite ?_ ?_)
  | (with_reducible refine LeO.bind ?_ (fun _ => ?_))
  | exact ih0 _ _ _ _
  | exact LeO.none _
  | refine LeO.ite ?_ ?_
  | refine LeO.bind ?_ (fun _ => ?_)
set_option maxHeartbeats 8000000 in
set_option maxRecDepth 100000 in
theorem slices_Index_string_string.calls (k : Nat) (A0 : Option Addr) (c0 : Nat) (l0 : List ByteArray) (a1 : ByteArray) (r : Int) (w : World) (hr0 : Kd.C Kd.string w A0 l0.length l0) (hc0 : l0.length ≤ c0) (h : slices_Index_string_string.f k l0 a1 = some r) :
 Calls Try.prog 133 #[.slice A0 l0.length c0, .string a1] w fun e w' => e = .returned (.int .i64 r) ∧ Drawn0 w w' := by
 have HR0 := Aside0.mk hr0
 have HC0 := Aside0.mk hc0
 clear hr0 hc0
 have H : (slices_Index_string_string.l0 k l0 a1 (l0.length : Int) 0) = some r := h
 clear h
 have H' := Aside0.mk H
 clear H
 go_enter Try.func133, Try.ntmps133
 go_wp2
 go_loopg [8] k (fun kq v8 w' => ∃ (x8_1 : Int), v8 = .int .i64 x8_1 ∧ Aside0 (slices_Index_string_string.l0 kq l0 a1 (l0.length : Int) x8_1 = some r) ∧ Aside0 (kq ≤ k) ∧ Drawn0 w w')
 case atStart => exact ⟨(0), es, H', ⟨Nat.le_refl _⟩, dr0⟩
 case round =>
  clear H'
  try clear c1
  try clear p2
  obtain ⟨x8_1, rfl, HA, HK1, ⟨m1, rfl⟩⟩ := hrel
  cases gk with
  | zero => exact absurd HA.out (by simp [slices_Index_string_string.l0])
  | succ k1 =>
   have H := HA.out
   clear HA
   simp only [slices_Index_string_string.l0] at H
   by_cases c3 : x8_1 < (l0.length : Int)
   · rw [if_pos c3] at H
     have c3b0 : decide (x8_1 < (l0.length : Int)) = true := decide_eq_true c3
     clear c3
     by_cases c4 : 0 ≤ x8_1
     · rw [if_pos c4] at H
       have c4b0 : decide (0 ≤ x8_1) = true := decide_eq_true c4
       clear c4
       by_cases c5 : x8_1 < (l0.length : Int)
       · rw [if_pos c5] at H
         have c5b0 : decide (x8_1 < (l0.length : Int)) = true := decide_eq_true c5
         clear c5
         by_cases c6 : a1.toList = (rdOf ByteArray.empty l0 x8_1).toList
         · rw [if_pos c6] at H
           have c6b0 : (a1.toList == (rdOf ByteArray.empty l0 x8_1).toList) = true := beq_iff_eq.mpr c6
           have c6b1 : (a1.toList != (rdOf ByteArray.empty l0 x8_1).toList) = false := bne_eq_false_iff_eq.mpr c6
           clear c6
           obtain rfl := Option.some.inj H
           have p1372 : 0 ≤ (x8_1 : Int) := of_decide_eq_true am
           have q1372 : x8_1 < (l0.length : Int) := of_decide_eq_true am
           obtain ⟨ad1372, e1372, hx1372_0⟩ := Kd.at_string HR0.out x8_1 p1372 q1372
           cases e1372
           replace p1372 := eq_true p1372
           replace q1372 := eq_true q1372
           go_wp2
           go_ret
           exact ⟨es, dr0⟩
         · rw [if_neg c6] at H
           have c6b0 : (a1.toList == (rdOf ByteArray.empty l0 x8_1).toList) = false := beq_eq_false_iff_ne.mpr c6
           have c6b1 : (a1.toList != (rdOf ByteArray.empty l0 x8_1).toList) = true := bne_iff_ne.mpr c6
           have H' := Aside0.mk H
           clear H
           have p1372 : 0 ≤ (x8_1 : Int) := of_decide_eq_true am
           have q1372 : x8_1 < (l0.length : Int) := of_decide_eq_true am
           obtain ⟨ad1372, e1372, hx1372_0⟩ := Kd.at_string HR0.out x8_1 p1372 q1372
           cases e1372
           replace p1372 := eq_true p1372
           replace q1372 := eq_true q1372
           go_wp2
           go_roundg k1
           case measure => have := HK1.out; omega
           case rel => exact ⟨(wrap64 (x8_1 + 1)), es, H', ⟨kp⟩, dr0⟩
       · rw [if_neg c5] at H
         exact absurd H (by simp)
     · rw [if_neg c4] at H
       exact absurd H (by simp)
   · rw [if_neg c3] at H
     have c3b0 : decide (x8_1 < (l0.length : Int)) = false := decide_eq_false c3
     clear c3
     obtain rfl := Option.some.inj H
     go_wp2
     go_ret
     exact ⟨es, dr0⟩

end Go.Proofs.Ytplekidnlofioaa.Q
namespace Go.Proofs.Ytplekidnlofioaa.Q
open Go.RowKit Go.Proofs.YtplekidnlofioaaW.PrintWords Go.Proofs.YtplekidnlofioaaW.PrintLast Go.Proofs.YtplekidnlofioaaW.PrintMore
attribute [local go_sem] max2_int min2_int max_two min_two max_three min_three max_four min_four   -- for this text's walks alone
set_option linter.unusedVariables false
set_option linter.unusedSimpArgs false

/-! ### slices_Contains_string_string: function 77 -/
def slices_Contains_string_string.f (k : Nat) (l0 : List ByteArray) (a1 : ByteArray) : Option (Bool) := (slices_Index_string_string.f k l0 a1).bind fun t1373 => (some (decide (t1373 ≥ 0)))
theorem slices_Contains_string_string.mono : ∀ a0 a1 k, LeO (slices_Contains_string_string.f k a0 a1) (slices_Contains_string_string.f (k + 1) a0 a1) := by
 intro a0 a1 k
 unfold slices_Contains_string_string.f
 repeat' first
  | (with_reducible exact slices_Index_string_string.mono _ _ _)
  | (with_reducible exact LeO.refl _)
  | (with_reducible exact LeO.none _)
  | (with_reducible refine LeO.ite ?_ ?_)
  | (with_reducible refine LeO.bind ?_ (fun _ => ?_))
  | exact slices_Index_string_string.mono _ _ _
  | exact LeO.none _
  | refine LeO.ite ?_ ?_
  | refine LeO.bind ?_ (fun _ => ?_)
set_option maxHeartbeats 8000000 in
set_option maxRecDepth 100000 in
theorem slices_Contains_string_string.calls (k : Nat) (A0 : Option Addr) (c0 : Nat) (l0 : List ByteArray) (a1 : ByteArray) (r : Bool) (w : World) (hr0 : Kd.C Kd.string w A0 l0.length l0) (hc0 : l0.length ≤ c0) (h : slices_Contains_string_string.f k l0 a1 = some r) :
 Calls Try.prog 77 #[.slice A0 l0.length c0, .string a1] w fun e w' => e = .returned (.bool r) ∧ Drawn0 w w' := by
 have HR0 := Aside0.mk hr0
 have HC0 := Aside0.mk hc0
 clear hr0 hc0
 have H : ((slices_Index_string_string.f k l0 a1).bind fun t1373 => (some (decide (t1373 ≥ 0)))) = some r := h
 clear h
 obtain ⟨t1373, A30, H⟩ := bo H
 have A3 := Aside0.mk A30
 clear A30
 obtain rfl := Option.some.inj H
 go_enter Try.func77, Try.ntmps77
 go_wp2_with (first | ((with_reducible refine gate_callee (f := 133) rfl ?_); refine gl (some 7) Try.func133 #[.slice A0 l0.length c0, .string a1] ?_; (with_reducible refine (slices_Index_string_string.calls k _ _ l0 a1 t1373 _ ?side1 ?side2 A3.out).mono ?_); (case side1 => repeat (first | exact HR0.out | (with_reducible refine Kd.C_alloc ?_ _) | (with_reducible refine Kd.C_drewN ?_ _) | (with_reducible refine Kd.C_drew ?_))); (case side2 => exact HC0.out); rintro e w' ⟨rfl, ⟨nd, rfl⟩⟩; refine ⟨_, rfl, ?_⟩))
 go_ret
 exact ⟨es, dr0⟩

end Go.Proofs.Ytplekidnlofioaa.Q
namespace Go.Proofs.Ytplekidnlofioaa.Q
open Go.RowKit Go.Proofs.YtplekidnlofioaaW.PrintWords Go.Proofs.YtplekidnlofioaaW.PrintLast Go.Proofs.YtplekidnlofioaaW.PrintMore
attribute [local go_sem] max2_int min2_int max_two min_two max_three min_three max_four min_four   -- for this text's walks alone
set_option linter.unusedVariables false
set_option linter.unusedSimpArgs false

/-! ### laws_szStringS: function 27 -/
def laws_szStringS.l0 : Nat → List ByteArray → Int → Int → Option (Int)
 | 0, _, _, _ => none
 | k + 1, x0, x1, x5 => if x5 < (x0.length : Int) then (if 0 ≤ x5 then (if (wrap64 (x1 - ((rdOf ByteArray.empty x0 x5).size : Int))) < 0 then (some (-1)) else (laws_szStringS.l0 k x0 (wrap64 (x1 - ((rdOf ByteArray.empty x0 x5).size : Int))) (wrap64 (x5 + 1)))) else (none)) else (some x1)
def laws_szStringS.f (k : Nat) (l0 : List ByteArray) (a1 : Int) : Option (Int) := if (wrap64 (a1 - (l0.length : Int))) < 0 then (some (-1)) else (laws_szStringS.l0 k l0 (wrap64 (a1 - (l0.length : Int))) 0)
theorem laws_szStringS.mono_l : ∀ k, (∀ y0 y1 y2, LeO (laws_szStringS.l0 k y0 y1 y2) (laws_szStringS.l0 (k + 1) y0 y1 y2))
 | 0 => fun _ _ _ r h => by simp [laws_szStringS.l0] at h
 | k + 1 => by
  have ih0 := laws_szStringS.mono_l k
  · intro y0 y1 y2
    unfold laws_szStringS.l0
    repeat' first
    | (with_reducible exact ih0 _ _ _)
    | (with_reducible exact LeO.refl _)
    | (with_reducible exact LeO.none _)
    | (with_reducible refine LeO.ite ?_ ?_)
    | (with_reducible refine LeO.bind ?_ (fun _ => ?_))
    | exact ih0 _ _ _
    | exact LeO.none _
    | refine LeO.ite ?_ ?_
    | refine LeO.bind ?_ (fun _ => ?_)
theorem laws_szStringS.mono : ∀ a0 a1 k, LeO (laws_szStringS.f k a0 a1) (laws_szStringS.f (k + 1) a0 a1) := by
 intro a0 a1 k
 have ih0 := laws_szStringS.mono_l k
 unfold laws_szStringS.f
 repeat' first
  | (with_reducible exact ih0 _ _ _)
  | (with_reducible exact LeO.refl _)
  | (with_reducible exact LeO.none _)
  | (with_reducible refine LeO.ite ?_ ?_)
  | (with_reducible refine LeO.bind ?_ (fun _ => ?_))
  | exact ih0 _ _ _
  | exact LeO.none _
  | refine LeO.ite ?_ ?_
  | refine LeO.bind ?_ (fun _ => ?_)
set_option maxHeartbeats 8000000 in
set_option maxRecDepth 100000 in
theorem laws_szStringS.calls (k : Nat) (A0 : Option Addr) (c0 : Nat) (l0 : List ByteArray) (a1 : Int) (r : Int) (w : World) (hr0 : Kd.C Kd.string w A0 l0.length l0) (hc0 : l0.length ≤ c0) (h : laws_szStringS.f k l0 a1 = some r) :
 Calls Try.prog 27 #[.slice A0 l0.length c0, .int .i64 a1] w fun e w' => e = .returned (.int .i64 r) ∧ Drawn0 w w' := by
 have HR0 := Aside0.mk hr0
 have HC0 := Aside0.mk hc0
 clear hr0 hc0
 have H : (if (wrap64 (a1 - (l0.length : Int))) < 0 then (some (-1)) else (laws_szStringS.l0 k l0 (wrap64 (a1 - (l0.length : Int))) 0)) = some r := h
 clear h
 by_cases c3 : (wrap64 (a1 - (l0.length : Int))) < 0
 · rw [if_pos c3] at H
   have c3b0 : decide ((wrap64 (a1 - (l0.length : Int))) < 0) = true := decide_eq_true c3
   clear c3
   obtain rfl := Option.some.inj H
   go_enter Try.func27, Try.ntmps27
   go_wp2
   go_ret
   exact ⟨es, dr0⟩
 · rw [if_neg c3] at H
   have c3b0 : decide ((wrap64 (a1 - (l0.length : Int))) < 0) = false := decide_eq_false c3
   clear c3
   have H' := Aside0.mk H
   clear H
   go_enter Try.func27, Try.ntmps27
   go_wp2
   go_loopg [1, 5] k (fun kq v1 v5 w' => ∃ (x1_1 : Int) (x5_1 : Int), v1 = .int .i64 x1_1 ∧ v5 = .int .i64 x5_1 ∧ Aside0 (laws_szStringS.l0 kq l0 x1_1 x5_1 = some r) ∧ Aside0 (kq ≤ k) ∧ Drawn0 w w')
   case atStart => exact ⟨(wrap64 (a1 - (l0.length : Int))), (0), es, es, H', ⟨Nat.le_refl _⟩, dr0⟩
   case round =>
    clear H'
    try clear c2
    try clear p2
    try clear c3
    try clear c3b0
    obtain ⟨x1_1, x5_1, rfl, rfl, HA, HK1, ⟨m1, rfl⟩⟩ := hrel
    cases gk with
    | zero => exact absurd HA.out (by simp [laws_szStringS.l0])
    | succ k1 =>
     have H := HA.out
     clear HA
     simp only [laws_szStringS.l0] at H
     by_cases c4 : x5_1 < (l0.length : Int)
     · rw [if_pos c4] at H
       have c4b0 : decide (x5_1 < (l0.length : Int)) = true := decide_eq_true c4
       clear c4
       by_cases c5 : 0 ≤ x5_1
       · rw [if_pos c5] at H
         have c5b0 : decide (0 ≤ x5_1) = true := decide_eq_true c5
         clear c5
         by_cases c6 : (wrap64 (x1_1 - ((rdOf ByteArray.empty l0 x5_1).size : Int))) < 0
         · rw [if_pos c6] at H
           have c6b0 : decide ((wrap64 (x1_1 - ((rdOf ByteArray.empty l0 x5_1).size : Int))) < 0) = true := decide_eq_true c6
           clear c6
           obtain rfl := Option.some.inj H
           have p326 : 0 ≤ (x5_1 : Int) := of_decide_eq_true am
           have q326 : x5_1 < (l0.length : Int) := of_decide_eq_true am
           obtain ⟨ad326, e326, hx326_0⟩ := Kd.at_string HR0.out x5_1 p326 q326
           cases e326
           replace p326 := eq_true p326
           replace q326 := eq_true q326
           go_wp2
           go_ret
           exact ⟨es, dr0⟩
         · rw [if_neg c6] at H
           have c6b0 : decide ((wrap64 (x1_1 - ((rdOf ByteArray.empty l0 x5_1).size : Int))) < 0) = false := decide_eq_false c6
           clear c6
           have H' := Aside0.mk H
           clear H
           have p326 : 0 ≤ (x5_1 : Int) := of_decide_eq_true am
           have q326 : x5_1 < (l0.length : Int) := of_decide_eq_true am
           obtain ⟨ad326, e326, hx326_0⟩ := Kd.at_string HR0.out x5_1 p326 q326
           cases e326
           replace p326 := eq_true p326
           replace q326 := eq_true q326
           go_wp2
           go_roundg k1
           case measure => have := HK1.out; omega
           case rel => exact ⟨(wrap64 (x1_1 - ((rdOf ByteArray.empty l0 x5_1).size : Int))), (wrap64 (x5_1 + 1)), es, es, H', ⟨kp⟩, dr0⟩
       · rw [if_neg c5] at H
         exact absurd H (by simp)
     · rw [if_neg c4] at H
       have c4b0 : decide (x5_1 < (l0.length : Int)) = false := decide_eq_false c4
       clear c4
       obtain rfl := Option.some.inj H
       go_wp2
       go_ret
       exact ⟨es, dr0⟩

end Go.Proofs.Ytplekidnlofioaa.Q
namespace Go.Proofs.Ytplekidnlofioaa.Q
open Go.RowKit Go.Proofs.YtplekidnlofioaaW.PrintWords Go.Proofs.YtplekidnlofioaaW.PrintLast Go.Proofs.YtplekidnlofioaaW.PrintMore
attribute [local go_sem] max2_int min2_int max_two min_two max_three min_three max_four min_four   -- for this text's walks alone
set_option linter.unusedVariables false
set_option linter.unusedSimpArgs false

/-! ### laws_toStringS: function 29 -/
def laws_toStringS.l0 : Nat → List ByteArray → List ByteArray → Int → Option (List ByteArray)
 | 0, _, _, _ => none
 | k + 1, x0, x3, x4 => if x4 < (x0.length : Int) then (if 0 ≤ x4 then (if x4 < (x3.length : Int) then (laws_toStringS.l0 k x0 (x3.set (x4 : Int).toNat (rdOf ByteArray.empty x0 x4)) (wrap64 (x4 + 1))) else (none)) else (none)) else (some x3)
def laws_toStringS.f (k : Nat) (l0 : List ByteArray) : Option (List ByteArray) := if 0 ≤ (l0.length : Int) then (if ((l0.length : Int) : Int).toNat ≤ 17592186044416 then (laws_toStringS.l0 k l0 (List.replicate ((l0.length : Int) : Int).toNat (⟨#[]⟩ : ByteArray)) 0) else (none)) else (none)
theorem laws_toStringS.mono_l : ∀ k, (∀ y0 y1 y2, LeO (laws_toStringS.l0 k y0 y1 y2) (laws_toStringS.l0 (k + 1) y0 y1 y2))
 | 0 => fun _ _ _ r h => by simp [laws_toStringS.l0] at h
 | k + 1 => by
  have ih0 := laws_toStringS.mono_l k
  · intro y0 y1 y2
    unfold laws_toStringS.l0
    repeat' first
    | (with_reducible exact ih0 _ _ _)
    | (with_reducible exact LeO.refl _)
    | (with_reducible exact LeO.none _)
    | (with_reducible refine LeO.ite ?_ ?_)
    | (with_reducible refine LeO.bind ?_ (fun _ => ?_))
    | exact ih0 _ _ _
    | exact LeO.none _
    | refine LeO.ite ?_ ?_
    | refine LeO.bind ?_ (fun _ => ?_)
theorem laws_toStringS.mono : ∀ a0 k, LeO (laws_toStringS.f k a0) (laws_toStringS.f (k + 1) a0) := by
 intro a0 k
 have ih0 := laws_toStringS.mono_l k
 unfold laws_toStringS.f
 repeat' first
  | (with_reducible exact ih0 _ _ _)
  | (with_reducible exact LeO.refl _)
  | (with_reducible exact LeO.none _)
  | (with_reducible refine LeO.ite ?_ ?_)
  | (with_reducible refine LeO.bind ?_ (fun _ => ?_))
  | exact ih0 _ _ _
  | exact LeO.none _
  | refine LeO.ite ?_ ?_
  | refine LeO.bind ?_ (fun _ => ?_)
set_option maxHeartbeats 8000000 in
set_option maxRecDepth 100000 in
theorem laws_toStringS.calls (k : Nat) (A0 : Option Addr) (c0 : Nat) (l0 : List ByteArray) (r : List ByteArray) (w : World) (hr0 : Kd.C Kd.string w A0 l0.length l0) (hc0 : l0.length ≤ c0) (h : laws_toStringS.f k l0 = some r) :
 Calls Try.prog 29 #[.slice A0 l0.length c0] w fun e w' => ∃ v0_ : Value, e = .returned (v0_) ∧ Kd.R Kd.string 9 w' w.heap.size (fun _ => True) v0_ r ∧ Below w.heap.size w w' := by
 have HR0 := Aside0.mk hr0
 have HC0 := Aside0.mk hc0
 clear hr0 hc0
 have HB := Aside0.mk (Below.refl w.heap.size w)
 have H : (if 0 ≤ (l0.length : Int) then (if ((l0.length : Int) : Int).toNat ≤ 17592186044416 then (laws_toStringS.l0 k l0 (List.replicate ((l0.length : Int) : Int).toNat (⟨#[]⟩ : ByteArray)) 0) else (none)) else (none)) = some r := h
 clear h
 by_cases c2 : 0 ≤ (l0.length : Int)
 · rw [if_pos c2] at H
   have c2b0 := eq_true c2
   have c2b1 : decide (0 ≤ (l0.length : Int)) = true := decide_eq_true c2
   clear c2
   by_cases c3 : ((l0.length : Int) : Int).toNat ≤ 17592186044416
   · rw [if_pos c3] at H
     have c3b0 := eq_true c3
     have c3b1 : decide (((l0.length : Int) : Int).toNat ≤ 17592186044416) = true := decide_eq_true c3
     clear c3
     obtain ⟨y340, hy340⟩ : ∃ y_ : List ByteArray, y_ = (List.replicate ((l0.length : Int) : Int).toNat (⟨#[]⟩ : ByteArray)) := ⟨_, rfl⟩
     replace H : (laws_toStringS.l0 k l0 y340 0) = some r := by first | (rw [hy340]; with_reducible exact H) | (have H2_ := (Option.bind_some _ _).symm.trans H; rw [hy340]; with_reducible exact H2_) | (have H2_ := (Option.bind_some _ _).symm.trans H; with_reducible exact H2_) | with_reducible exact H | (rw [hy340]; exact H) | exact H
     have Ny340 := Aside0.mk hy340
     clear hy340
     have H' := Aside0.mk H
     clear H
     go_enter Try.func29, Try.ntmps29
     go_wp2_with (first | ((with_reducible refine gate_dst (N := 7) rfl ?_); refine Kd.R_make Kd.string _ 9 rfl (N := 7) rfl 49 _ _ rfl (l0.length : Int) rfl rfl Try.underlying49 (.string ⟨#[]⟩) 16 info9 rfl (by decide) (by omega) (⟨#[]⟩ : ByteArray) (ok := fun _ => True) (okp := fun _ => True) rfl (fun _ hk => hk) trivial (of_decide_eq_true am) (Nat.le_trans (Nat.mul_le_mul_right _ (of_decide_eq_true am : (l0.length : Int).toNat ≤ 17592186044416)) (by omega)) (Below.refl _ _) (Nat.le_refl _) ?_; intro v341 w4 ho5 hb hg_ hnew_; clear hg_ hnew_; (first | rw [← Ny340.out] at ho5 | (simp only [Int.reduceToNat] at ho5; rw [← Ny340.out] at ho5)); have HO342 := ak (Kd.R_lower ho5 (below_size bl)); replace HB := ak (below_step bl hb); clear hb ho5))
     go_loopg [4] k (fun kq v4 w' => ∃ (x3_1 : List ByteArray) (x4_1 : Int), v4 = .int .i64 x4_1 ∧ Aside0 (laws_toStringS.l0 kq l0 x3_1 x4_1 = some r) ∧ Aside0 (kq ≤ k) ∧ Aside0 (Kd.R Kd.string 9 w' w.heap.size (fun _ => True) v341 x3_1) ∧ Aside0 (Below w.heap.size w w'))
     case atStart => exact ⟨(y340), (0), es, H', ⟨Nat.le_refl _⟩, ⟨kr HO342⟩, ⟨bl⟩⟩
     case round =>
      clear H'
      try clear c2
      try clear c2b0
      try clear c2b1
      try clear p2
      try clear c3
      try clear c3b0
      try clear c3b1
      obtain ⟨x3_1, x4_1, rfl, HA, HK1, HO_3, HB⟩ := hrel
      cases gk with
      | zero => exact absurd HA.out (by simp [laws_toStringS.l0])
      | succ k1 =>
       have H := HA.out
       clear HA
       simp only [laws_toStringS.l0] at H
       by_cases c6 : x4_1 < (l0.length : Int)
       · rw [if_pos c6] at H
         have c6b0 : decide (x4_1 < (l0.length : Int)) = true := decide_eq_true c6
         clear c6
         by_cases c7 : 0 ≤ x4_1
         · rw [if_pos c7] at H
           have c7b0 : decide (0 ≤ x4_1) = true := decide_eq_true c7
           clear c7
           by_cases c8 : x4_1 < (x3_1.length : Int)
           · rw [if_pos c8] at H
             have c8b0 : decide (x4_1 < (x3_1.length : Int)) = true := decide_eq_true c8
             clear c8
             obtain ⟨y344, hy344⟩ : ∃ y_ : List ByteArray, y_ = (x3_1.set (x4_1 : Int).toNat (rdOf ByteArray.empty l0 x4_1)) := ⟨_, rfl⟩
             replace H : (laws_toStringS.l0 k1 l0 y344 (wrap64 (x4_1 + 1))) = some r := by first | (rw [hy344]; with_reducible exact H) | (have H2_ := (Option.bind_some _ _).symm.trans H; rw [hy344]; with_reducible exact H2_) | (have H2_ := (Option.bind_some _ _).symm.trans H; with_reducible exact H2_) | with_reducible exact H | (rw [hy344]; exact H) | exact H
             have Ny344 := Aside0.mk hy344
             clear hy344
             have H' := Aside0.mk H
             clear H
             have p343 : 0 ≤ (x4_1 : Int) := of_decide_eq_true am
             have q343 : x4_1 < (l0.length : Int) := of_decide_eq_true am
             obtain ⟨ad343, e343, hx343_0⟩ := Kd.at_string HR0.out x4_1 p343 q343
             cases e343
             replace hx343_0 := cw hx343_0
             replace p343 := eq_true p343
             replace q343 := eq_true q343
             have p9 : 0 ≤ (x4_1 : Int) := of_decide_eq_true am
             have q9 : (x4_1 : Int) < ((x3_1.length : Int) : Int) := of_decide_eq_true am
             obtain ⟨go9, co9, eo9, gb9, gl9, cl9, HG9⟩ := Kd.R_form HO_3.out (by omega)
             (first | cases eo9 | (injection eo9 with ea_ en_ ec_; (first | subst ea_ | (injection ea_ with ea_; subst ea_)); subst ec_; clear en_))
             have GB9 := Aside0.mk gb9
             have GG9 := Aside0.mk HG9
             clear gb9 gl9 HG9
             obtain ⟨hx9_0, hf9_0⟩ := Kd.R_celln (⟨#[]⟩ : ByteArray) HO_3.out (x4_1 : Int) p9 q9
             replace p9 := eq_true p9
             replace q9 := eq_true q9
             have HP10 := Kd.R_putg HO_3.out (x4_1 : Int) (rdOf ByteArray.empty l0 x4_1)
             go_wp2_with (first | ((with_reducible refine gate_store (t := 9) (p := 20) rfl ?_); refine store_event (t := 9) (p := 20) (v := ?vo_w11) (w1 := (wr.setCell ⟨go9, (x4_1 : Int).toNat, none⟩ (.string (rdOf ByteArray.empty l0 x4_1)))) ?hg ?ho ?hn ?hr ?_; (case ho => rfl); (case hg => rfl); (case hn => rfl); (case hr => first | (go_simp; done) | (go_simp; rfl)); intro w11 hw; have hg : wr.grownBy w11 (some go9) := (by rw [hw]; exact HP10.2); have hp_ : Kd.R Kd.string 9 w11 w.heap.size (fun _ => True) (.slice (some ⟨go9, 0, none⟩) x3_1.length co9) y344 := (by rw [hw, Ny344.out]; exact HP10.1); clear HP10; replace HO_3 := ak hp_; replace HB := ak (by rw [hw]; exact below_set (HB.out) GB9.out : Below w.heap.size w w11); clear hg hw hp_))
             go_roundg k1
             case measure => have := HK1.out; omega
             case rel => exact ⟨(y344), (wrap64 (x4_1 + 1)), es, H', ⟨kp⟩, ⟨kr HO_3⟩, ⟨bl⟩⟩
           · rw [if_neg c8] at H
             exact absurd H (by simp)
         · rw [if_neg c7] at H
           exact absurd H (by simp)
       · rw [if_neg c6] at H
         have c6b0 : decide (x4_1 < (l0.length : Int)) = false := decide_eq_false c6
         clear c6
         obtain rfl := Option.some.inj H
         go_wp2
         go_ret
         exact ⟨_, ew, kr HO_3, bl⟩
   · rw [if_neg c3] at H
     exact absurd H (by simp)
 · rw [if_neg c2] at H
   exact absurd H (by simp)

end Go.Proofs.Ytplekidnlofioaa.Q
namespace Go.Proofs.Ytplekidnlofioaa.Q
open Go.RowKit Go.Proofs.YtplekidnlofioaaW.PrintWords Go.Proofs.YtplekidnlofioaaW.PrintLast Go.Proofs.YtplekidnlofioaaW.PrintMore
attribute [local go_sem] max2_int min2_int max_two min_two max_three min_three max_four min_four   -- for this text's walks alone
set_option linter.unusedVariables false
set_option linter.unusedSimpArgs false

/-! ### laws_eqStringS: function 30 -/
def laws_eqStringS.l0 : Nat → List ByteArray → List ByteArray → Int → Option (Bool)
 | 0, _, _, _ => none
 | k + 1, x0, x1, x5 => if x5 < (x0.length : Int) then (if 0 ≤ x5 then (if x5 < (x1.length : Int) then (if (rdOf ByteArray.empty x0 x5).toList = (rdOf ByteArray.empty x1 x5).toList then (laws_eqStringS.l0 k x0 x1 (wrap64 (x5 + 1))) else (some false)) else (none)) else (none)) else (some true)
def laws_eqStringS.f (k : Nat) (l0 : List ByteArray) (l1 : List ByteArray) : Option (Bool) := if (l0.length : Int) = (l1.length : Int) then (laws_eqStringS.l0 k l0 l1 0) else (some false)
theorem laws_eqStringS.mono_l : ∀ k, (∀ y0 y1 y2, LeO (laws_eqStringS.l0 k y0 y1 y2) (laws_eqStringS.l0 (k + 1) y0 y1 y2))
 | 0 => fun _ _ _ r h => by simp [laws_eqStringS.l0] at h
 | k + 1 => by
  have ih0 := laws_eqStringS.mono_l k
  · intro y0 y1 y2
    unfold laws_eqStringS.l0
    repeat' first
    | (with_reducible exact ih0 _ _ _)
    | (with_reducible exact LeO.refl _)
    | (with_reducible exact LeO.none _)
    | (with_reducible refine LeO.ite ?_ ?_)
    | (with_reducible refine LeO.bind ?_ (fun _ => ?_))
    | exact ih0 _ _ _
    | exact LeO.none _
    | refine LeO.ite ?_ ?_
    | refine LeO.bind ?_ (fun _ => ?_)
theorem laws_eqStringS.mono : ∀ a0 a1 k, LeO (laws_eqStringS.f k a0 a1) (laws_eqStringS.f (k + 1) a0 a1) := by
 intro a0 a1 k
 have ih0 := laws_eqStringS.mono_l k
 unfold laws_eqStringS.f
 repeat' first
  | (with_reducible exact ih0 _ _ _)
  | (with_reducible exact LeO.refl _)
  | (with_reducible exact LeO.none _)
  | (with_reducible refine LeO.ite ?_ ?_)
  | (with_reducible refine LeO.bind ?_ (fun _ => ?_))
  | exact ih0 _ _ _
  | exact LeO.none _
  | refine LeO.ite ?_ ?_
  | refine LeO.bind ?_ (fun _ => ?_)
set_option maxHeartbeats 8000000 in
set_option maxRecDepth 100000 in
theorem laws_eqStringS.calls (k : Nat) (A0 : Option Addr) (c0 : Nat) (l0 : List ByteArray) (A1 : Option Addr) (c1 : Nat) (l1 : List ByteArray) (r : Bool) (w : World) (hr0 : Kd.C Kd.string w A0 l0.length l0) (hc0 : l0.length ≤ c0) (hr1 : Kd.C Kd.string w A1 l1.length l1) (hc1 : l1.length ≤ c1) (h : laws_eqStringS.f k l0 l1 = some r) :
 Calls Try.prog 30 #[.slice A0 l0.length c0, .slice A1 l1.length c1] w fun e w' => e = .returned (.bool r) ∧ Drawn0 w w' := by
 have HR0 := Aside0.mk hr0
 have HC0 := Aside0.mk hc0
 clear hr0 hc0
 have HR1 := Aside0.mk hr1
 have HC1 := Aside0.mk hc1
 clear hr1 hc1
 have H : (if (l0.length : Int) = (l1.length : Int) then (laws_eqStringS.l0 k l0 l1 0) else (some false)) = some r := h
 clear h
 by_cases c3 : (l0.length : Int) = (l1.length : Int)
 · rw [if_pos c3] at H
   have c3b0 : ((l0.length : Int) == (l1.length : Int)) = true := beq_iff_eq.mpr c3
   have c3b1 : ((l0.length : Int) != (l1.length : Int)) = false := bne_eq_false_iff_eq.mpr c3
   have c3b2 : (l0.length == l1.length) = true := by first | simpa using c3 | (simp at c3 ⊢; omega)
   clear c3
   have H' := Aside0.mk H
   clear H
   go_enter Try.func30, Try.ntmps30
   go_wp2
   repeat (go_quiet (fail); try go_wp2)
   go_loopg [5] k (fun kq v5 w' => ∃ (x5_1 : Int), v5 = .int .i64 x5_1 ∧ Aside0 (laws_eqStringS.l0 kq l0 l1 x5_1 = some r) ∧ Aside0 (kq ≤ k) ∧ Drawn0 w w')
   case atStart => exact ⟨(0), es, H', ⟨Nat.le_refl _⟩, dr0⟩
   case round =>
    clear H'
    try clear c1
    try clear p2
    try clear c3
    try clear c3b0
    try clear c3b1
    try clear c3b2
    obtain ⟨x5_1, rfl, HA, HK1, ⟨m1, rfl⟩⟩ := hrel
    cases gk with
    | zero => exact absurd HA.out (by simp [laws_eqStringS.l0])
    | succ k1 =>
     have H := HA.out
     clear HA
     simp only [laws_eqStringS.l0] at H
     by_cases c4 : x5_1 < (l0.length : Int)
     · rw [if_pos c4] at H
       have c4b0 : decide (x5_1 < (l0.length : Int)) = true := decide_eq_true c4
       clear c4
       by_cases c5 : 0 ≤ x5_1
       · rw [if_pos c5] at H
         have c5b0 : decide (0 ≤ x5_1) = true := decide_eq_true c5
         clear c5
         by_cases c6 : x5_1 < (l1.length : Int)
         · rw [if_pos c6] at H
           have c6b0 : decide (x5_1 < (l1.length : Int)) = true := decide_eq_true c6
           clear c6
           by_cases c7 : (rdOf ByteArray.empty l0 x5_1).toList = (rdOf ByteArray.empty l1 x5_1).toList
           · rw [if_pos c7] at H
             have c7b0 : ((rdOf ByteArray.empty l0 x5_1).toList == (rdOf ByteArray.empty l1 x5_1).toList) = true := beq_iff_eq.mpr c7
             have c7b1 : ((rdOf ByteArray.empty l0 x5_1).toList != (rdOf ByteArray.empty l1 x5_1).toList) = false := bne_eq_false_iff_eq.mpr c7
             clear c7
             have H' := Aside0.mk H
             clear H
             have p345 : 0 ≤ (x5_1 : Int) := of_decide_eq_true am
             have q345 : x5_1 < (l0.length : Int) := of_decide_eq_true am
             obtain ⟨ad345, e345, hx345_0⟩ := Kd.at_string HR0.out x5_1 p345 q345
             cases e345
             replace p345 := eq_true p345
             replace q345 := eq_true q345
             have p346 : 0 ≤ (x5_1 : Int) := of_decide_eq_true am
             have q346 : x5_1 < (l1.length : Int) := of_decide_eq_true am
             obtain ⟨ad346, e346, hx346_0⟩ := Kd.at_string HR1.out x5_1 p346 q346
             cases e346
             replace p346 := eq_true p346
             replace q346 := eq_true q346
             go_wp2
             repeat (go_quiet (fail); try go_wp2)
             go_roundg k1
             case measure => have := HK1.out; omega
             case rel => exact ⟨(wrap64 (x5_1 + 1)), es, H', ⟨kp⟩, dr0⟩
           · rw [if_neg c7] at H
             have c7b0 : ((rdOf ByteArray.empty l0 x5_1).toList == (rdOf ByteArray.empty l1 x5_1).toList) = false := beq_eq_false_iff_ne.mpr c7
             have c7b1 : ((rdOf ByteArray.empty l0 x5_1).toList != (rdOf ByteArray.empty l1 x5_1).toList) = true := bne_iff_ne.mpr c7
             obtain rfl := Option.some.inj H
             have p345 : 0 ≤ (x5_1 : Int) := of_decide_eq_true am
             have q345 : x5_1 < (l0.length : Int) := of_decide_eq_true am
             obtain ⟨ad345, e345, hx345_0⟩ := Kd.at_string HR0.out x5_1 p345 q345
             cases e345
             replace p345 := eq_true p345
             replace q345 := eq_true q345
             have p346 : 0 ≤ (x5_1 : Int) := of_decide_eq_true am
             have q346 : x5_1 < (l1.length : Int) := of_decide_eq_true am
             obtain ⟨ad346, e346, hx346_0⟩ := Kd.at_string HR1.out x5_1 p346 q346
             cases e346
             replace p346 := eq_true p346
             replace q346 := eq_true q346
             go_wp2
             repeat (go_quiet (fail); try go_wp2)
             go_ret
             exact ⟨es, dr0⟩
         · rw [if_neg c6] at H
           exact absurd H (by simp)
       · rw [if_neg c5] at H
         exact absurd H (by simp)
     · rw [if_neg c4] at H
       have c4b0 : decide (x5_1 < (l0.length : Int)) = false := decide_eq_false c4
       clear c4
       obtain rfl := Option.some.inj H
       go_wp2
       repeat (go_quiet (fail); try go_wp2)
       go_ret
       exact ⟨es, dr0⟩
 · rw [if_neg c3] at H
   have c3b0 : ((l0.length : Int) == (l1.length : Int)) = false := beq_eq_false_iff_ne.mpr c3
   have c3b1 : ((l0.length : Int) != (l1.length : Int)) = true := bne_iff_ne.mpr c3
   have c3b2 : (l0.length == l1.length) = false := by first | simpa using c3 | (simp at c3 ⊢; omega)
   obtain rfl := Option.some.inj H
   go_enter Try.func30, Try.ntmps30
   go_wp2
   repeat (go_quiet (fail); try go_wp2)
   go_ret
   exact ⟨es, dr0⟩

end Go.Proofs.Ytplekidnlofioaa.Q
namespace Go.Proofs.Ytplekidnlofioaa.Q
open Go.RowKit Go.Proofs.YtplekidnlofioaaW.PrintWords Go.Proofs.YtplekidnlofioaaW.PrintLast Go.Proofs.YtplekidnlofioaaW.PrintMore
attribute [local go_sem] max2_int min2_int max_two min_two max_three min_three max_four min_four   -- for this text's walks alone
set_option linter.unusedVariables false
set_option linter.unusedSimpArgs false

/-! ### laws_markStringS: function 31 -/
def laws_markStringS.l0 : Nat → List ByteArray → Int → Int → Option (Int × List ByteArray)
 | 0, _, _, _ => none
 | k + 1, x0, x1, x5 => if x5 < (x0.length : Int) then ((laws_markText.f k x1).bind fun t347 => (if 0 ≤ x5 then (laws_markStringS.l0 k (x0.set (x5 : Int).toNat t347) (wrap64 (x1 + 1)) (wrap64 (x5 + 1))) else (none))) else (some (x1, x0))
def laws_markStringS.f (k : Nat) (l0 : List ByteArray) (a1 : Int) : Option (Int × List ByteArray) := laws_markStringS.l0 k l0 a1 0
theorem laws_markStringS.mono_l : ∀ k, (∀ y0 y1 y2, LeO (laws_markStringS.l0 k y0 y1 y2) (laws_markStringS.l0 (k + 1) y0 y1 y2))
 | 0 => fun _ _ _ r h => by simp [laws_markStringS.l0] at h
 | k + 1 => by
  have ih0 := laws_markStringS.mono_l k
  · intro y0 y1 y2
    unfold laws_markStringS.l0
    repeat' first
    | (with_reducible exact ih0 _ _ _)
    | (with_reducible exact laws_markText.mono _ _)
    | (with_reducible exact LeO.refl _)
    | (with_reducible exact LeO.none _)
    | (with_reducible refine LeO.ite ?_ ?_)
    | (with_reducible refine LeO.bind ?_ (fun _ => ?_))
    | exact ih0 _ _ _
    | exact laws_markText.mono _ _
    | exact LeO.none _
    | refine LeO.ite ?_ ?_
    | refine LeO.bind ?_ (fun _ => ?_)
theorem laws_markStringS.mono : ∀ a0 a1 k, LeO (laws_markStringS.f k a0 a1) (laws_markStringS.f (k + 1) a0 a1) := by
 intro a0 a1 k
 have ih0 := laws_markStringS.mono_l k
 unfold laws_markStringS.f
 repeat' first
  | (with_reducible exact ih0 _ _ _)
  | (with_reducible exact laws_markText.mono _ _)
  | (with_reducible exact LeO.refl _)
  | (with_reducible exact LeO.none _)
  | (with_reducible refine LeO.ite ?_ ?_)
  | (with_reducible refine LeO.bind ?_ (fun _ => ?_))
  | exact ih0 _ _ _
  | exact laws_markText.mono _ _
  | exact LeO.none _
  | refine LeO.ite ?_ ?_
  | refine LeO.bind ?_ (fun _ => ?_)
set_option maxHeartbeats 8000000 in
set_option maxRecDepth 100000 in
theorem laws_markStringS.calls (k : Nat) (P0_ : Nat → Prop) (u9000_ : Value) (l0 : List ByteArray) (a1 : Int) (r1 : Int) (r2 : List ByteArray) (w0 w : World) (hB : Below w0.heap.size w0 w) (ho0 : Kd.R Kd.string 9 w w0.heap.size P0_ u9000_ l0) (h : laws_markStringS.f k l0 a1 = some (r1, r2)) :
 Calls Try.prog 31 #[u9000_, .int .i64 a1] w fun e w' => e = .returned (.int .i64 r1) ∧ Kd.R Kd.string 9 w' w0.heap.size (fun k_ => (P0_ k_ ∨ w.heap.size ≤ k_)) u9000_ r2 ∧ Below w0.heap.size w0 w' ∧ Kept w w' (fun k_ => P0_ k_) := by
 have HO0 := Aside0.mk (show Kd.R Kd.string 9 w w0.heap.size (fun k_ => (P0_ k_ ∨ w.heap.size ≤ k_)) u9000_ l0 from Kd.R_mono ho0 (fun k_ hk => (.inl hk)))
 have HK := Aside0.mk (Kept.refl w (fun k_ => P0_ k_))
 have HW0 := Aside0.mk hB.size
 have HB := Aside0.mk hB
 clear hB
 have H : (laws_markStringS.l0 k l0 a1 0) = some (r1, r2) := h
 clear h
 have H' := Aside0.mk H
 clear H
 go_enter Try.func31, Try.ntmps31
 go_wp2
 go_loopg [1, 5] k (fun kq v1 v5 w' => ∃ (x0_1 : List ByteArray) (x1_1 : Int) (x5_1 : Int), v1 = .int .i64 x1_1 ∧ v5 = .int .i64 x5_1 ∧ Aside0 (laws_markStringS.l0 kq x0_1 x1_1 x5_1 = some (r1, r2)) ∧ Aside0 (kq ≤ k) ∧ Aside0 (Kd.R Kd.string 9 w' w0.heap.size (fun k_ => (P0_ k_ ∨ w.heap.size ≤ k_)) u9000_ x0_1) ∧ Aside0 (Kept w w' (fun k_ => P0_ k_)) ∧ Aside0 (Below w0.heap.size w0 w'))
 case atStart => exact ⟨(l0), (a1), (0), es, es, H', ⟨Nat.le_refl _⟩, ⟨kr HO0⟩, ⟨by repeat (first | (with_reducible first | exact HK.out | apply Kept.alloc | apply Kept.drewN | apply Kept.drew) | exact HK.out)⟩, ⟨bl⟩⟩
 case round =>
  clear H'
  try clear p2
  obtain ⟨x0_1, x1_1, x5_1, rfl, rfl, HA, HK1, HO_0, HK, HB⟩ := hrel
  cases gk with
  | zero => exact absurd HA.out (by simp [laws_markStringS.l0])
  | succ k1 =>
   have H := HA.out
   clear HA
   simp only [laws_markStringS.l0] at H
   by_cases c3 : x5_1 < (x0_1.length : Int)
   · rw [if_pos c3] at H
     have c3b0 : decide (x5_1 < (x0_1.length : Int)) = true := decide_eq_true c3
     clear c3
     obtain ⟨t347, A40, H⟩ := bo H
     have A4 := Aside0.mk A40
     clear A40
     by_cases c5 : 0 ≤ x5_1
     · rw [if_pos c5] at H
       have c5b0 : decide (0 ≤ x5_1) = true := decide_eq_true c5
       clear c5
       obtain ⟨y348, hy348⟩ : ∃ y_ : List ByteArray, y_ = (x0_1.set (x5_1 : Int).toNat t347) := ⟨_, rfl⟩
       replace H : (laws_markStringS.l0 k1 y348 (wrap64 (x1_1 + 1)) (wrap64 (x5_1 + 1))) = some (r1, r2) := by first | (rw [hy348]; with_reducible exact H) | (have H2_ := (Option.bind_some _ _).symm.trans H; rw [hy348]; with_reducible exact H2_) | (have H2_ := (Option.bind_some _ _).symm.trans H; with_reducible exact H2_) | with_reducible exact H | (rw [hy348]; exact H) | exact H
       have Ny348 := Aside0.mk hy348
       clear hy348
       have H' := Aside0.mk H
       clear H
       obtain ⟨Ao7, co7, eo7⟩ := Kd.R_slice HO_0.out
       subst eo7
       go_wp2_with (first | ((with_reducible refine gate_callee (f := 82) rfl ?_); refine gl (some 15) Try.func82 #[.int .i64 x1_1] ?_; (with_reducible refine (laws_markText.calls k1 x1_1 t347 _ A4.out).mono ?_); rintro e w8 ⟨rfl, hb⟩; refine ⟨_, rfl, ?_⟩; replace HO_0 := ak (Kd.R_below (kr HO_0) hb); replace HK := ak (Kept.below (S := (fun k_ => P0_ k_)) (by repeat (first | (with_reducible first | exact HK.out | apply Kept.alloc | apply Kept.drewN | apply Kept.drew) | exact HK.out)) hb); replace HB := ak (below_step bl hb); (try clear hb); (try clear hb2); (try clear hk); (try clear hi); have p6 : 0 ≤ (x5_1 : Int) := of_decide_eq_true am; have q6 : (x5_1 : Int) < ((x0_1.length : Int) : Int) := of_decide_eq_true am; obtain ⟨go6, co6, eo6, gb6, gl6, cl6, HG6⟩ := Kd.R_form HO_0.out (by omega); (first | cases eo6 | (injection eo6 with ea_ en_ ec_; (first | subst ea_ | (injection ea_ with ea_; subst ea_)); subst ec_; clear en_)); have GB6 := Aside0.mk gb6; have GG6 := Aside0.mk HG6; clear gb6 gl6 HG6; have HMgo6 := Aside0.mk (show (P0_ go6 ∨ w.heap.size ≤ go6) from (HO_0.out.1 _ rfl)); obtain ⟨hx6_0, hf6_0⟩ := Kd.R_celln (⟨#[]⟩ : ByteArray) HO_0.out (x5_1 : Int) p6 q6; replace p6 := eq_true p6; replace q6 := eq_true q6; obtain ⟨hy9_, hz9_⟩ := Kd.R_celln (⟨#[]⟩ : ByteArray) HO_0.out (x5_1 : Int) (of_decide_eq_true am) (of_decide_eq_true am); have HP9 := Kd.R_putg HO_0.out (x5_1 : Int) t347) | ((with_reducible refine gate_store (t := 9) (p := 16) rfl ?_); refine store_event (t := 9) (p := 16) (v := ?vo_w10) (w1 := (w8.setCell ⟨go6, (x5_1 : Int).toNat, none⟩ (.string t347))) ?hg ?ho ?hn ?hr ?_; (case ho => rfl); (case hg => rfl); (case hn => rfl); (case hr => first | (go_simp; done) | (go_simp; rfl)); intro w10 hw; have hg : w8.grownBy w10 (some go6) := (by rw [hw]; exact HP9.2); have hp_ : Kd.R Kd.string 9 w10 w0.heap.size (fun k_ => (P0_ k_ ∨ w.heap.size ≤ k_)) (.slice (some ⟨go6, 0, none⟩) x0_1.length co7) y348 := (by rw [hw, Ny348.out]; exact HP9.1); clear HP9; replace HB := ak (by rw [hw]; exact below_set (HB.out) GB6.out : Below w0.heap.size w0 w10); replace HK := ak (Kept.of_grown (S := (fun k_ => P0_ k_)) hg (by repeat (first | (with_reducible first | exact HK.out | apply Kept.alloc | apply Kept.drewN | apply Kept.drew) | exact HK.out)) (fun k_ e_ => (HO_0.out.1 k_ e_))); replace HO_0 := ak hp_; clear hg hw hp_))
       go_roundg k1
       case measure => have := HK1.out; omega
       case rel => exact ⟨(y348), (wrap64 (x1_1 + 1)), (wrap64 (x5_1 + 1)), es, es, H', ⟨kp⟩, ⟨kr HO_0⟩, ⟨by repeat (first | (with_reducible first | exact HK.out | apply Kept.alloc | apply Kept.drewN | apply Kept.drew) | exact HK.out)⟩, ⟨bl⟩⟩
     · rw [if_neg c5] at H
       exact absurd H (by simp)
   · rw [if_neg c3] at H
     have c3b0 : decide (x5_1 < (x0_1.length : Int)) = false := decide_eq_false c3
     clear c3
     simp only [Option.some.injEq, Prod.mk.injEq] at H
     obtain ⟨rfl, rfl⟩ := H
     obtain ⟨Ao11, co11, eo11⟩ := Kd.R_slice HO_0.out
     subst eo11
     go_wp2
     go_ret
     exact ⟨ew, kr HO_0, bl, by repeat (first | (with_reducible first | exact HK.out | apply Kept.alloc | apply Kept.drewN | apply Kept.drew) | exact HK.out)⟩

end Go.Proofs.Ytplekidnlofioaa.Q
namespace Go.Proofs.Ytplekidnlofioaa.Q
open Go.RowKit Go.Proofs.YtplekidnlofioaaW.PrintWords Go.Proofs.YtplekidnlofioaaW.PrintLast
def inP (pods : List ByteArray) (a : ByteArray) : Bool := pods.any fun x => x.toList == a.toList
theorem rdT_mid (pre suf : List ByteArray) (p : ByteArray) : rdOf ByteArray.empty (pre ++ p :: suf) (pre.length : Int) = p := by simp [rdOf]
theorem index_l0_ev (l : List ByteArray) (a : ByteArray) (hl : l.length ≤ 1048576) : ∀ suf pre, l = pre ++ suf → ∃ r : Int, Ev (fun k => slices_Index_string_string.l0 k l a (l.length : Int) (pre.length : Int)) r ∧ (decide (r ≥ 0) = inP suf a) := by
  intro suf
  induction suf with
  | nil =>
    intro pre h
    refine ⟨-1, Ev.step (fun k => by rw [slices_Index_string_string.l0]) ?_, rfl⟩
    have hlt : ¬ ((pre.length : Int) < (l.length : Int)) := by rw [h]; simp
    simp only [if_neg hlt]
    exact Ev.now _
  | cons s suf ih =>
    intro pre h
    have hl2 : l.length = pre.length + (suf.length + 1) := by rw [h, List.length_append, List.length_cons]
    have hlt : (pre.length : Int) < (l.length : Int) := by omega
    have hw := wrapn pre.length (by omega)
    have hrd : rdOf ByteArray.empty l (pre.length : Int) = s := by rw [h]; exact rdT_mid _ _ _
    by_cases c : a.toList = s.toList
    · refine ⟨(pre.length : Int), Ev.step (fun k => by rw [slices_Index_string_string.l0]) ?_, ?_⟩
      · simp only [if_pos hlt, if_pos (nn _), hrd, if_pos c]
        exact Ev.now _
      · have : (s.toList == a.toList) = true := by rw [c]; exact beq_self_eq_true _
        simp [inP, this]
    · obtain ⟨r, hr, hd⟩ := ih (pre ++ [s]) (by rw [h]; simp)
      rw [List.length_append, List.length_singleton] at hr
      refine ⟨r, Ev.step (fun k => by rw [slices_Index_string_string.l0]) ?_, ?_⟩
      · simp only [if_pos hlt, if_pos (nn _), hrd, if_neg c, hw]
        exact hr
      · have : (s.toList == a.toList) = false := beq_eq_false_iff_ne.2 (fun e => c e.symm)
        rw [hd]
        simp [inP, this]
theorem contains_ev (l : List ByteArray) (a : ByteArray) (hl : l.length ≤ 1048576) : Ev (fun k => slices_Contains_string_string.f k l a) (inP l a) := by
  obtain ⟨r, hr, hd⟩ := index_l0_ev l a hl l [] rfl
  unfold slices_Contains_string_string.f
  have h2 : Ev (fun k => slices_Index_string_string.f k l a) r := hr
  refine Ev.bind h2 ?_
  rw [hd]
  exact Ev.now _
def keepV (pods : List ByteArray) (l : List S81) : List S81 × Bool := if storeOk l = true ∧ pods.length ≤ 300 then (l.filter (fun s => inP pods s.f0), true) else (l, false)
end Go.Proofs.Ytplekidnlofioaa.Q
namespace Go.Proofs.Ytplekidnlofioaa.Q
open Go.RowKit Go.Proofs.YtplekidnlofioaaW.PrintWords Go.Proofs.YtplekidnlofioaaW.PrintLast Go.Proofs.YtplekidnlofioaaW.PrintMore
attribute [local go_sem] max2_int min2_int max_two min_two max_three min_three max_four min_four
set_option linter.unusedVariables false
set_option linter.unusedSimpArgs false
set_option maxHeartbeats 8000000 in
set_option maxRecDepth 100000 in
theorem indexFuncS (p : List Value → Bool) (cap_ : Array Value) (rows : List (List Value)) (base : Nat) (ok : Nat → Prop) (v : Value) (w : World) (hR : (Kd.raw 3).R 81 w base ok v rows) (hlen : rows.length ≤ 4611686018427387000)
    (hp : ∀ W cs, Kept w W (fun k => some k = v.ownBlock) → cs ∈ rows → Calls Try.prog 76 (#[.agg cs.toArray] ++ cap_) W fun e W' => e = .returned (.bool (p cs)) ∧ Below W.heap.size W W') :
    Calls Try.prog 132 #[v, .func (.func 76) #[] cap_] w fun e w' => e = .returned (.int .i64 (idxV p rows)) ∧ Below w.heap.size w w' := by
  have HO := ak hR
  have HP := ak hp
  have HL := ak hlen
  have HB := ak (Below.refl w.heap.size w)
  obtain ⟨Ao, co, eo⟩ := Kd.R_slice hR
  subst eo
  clear hR hp hlen
  go_enter Try.func132, Try.ntmps132
  go_wp2
  go_loopg [5, 8] rows.length (fun kq v5 v8 w' => ∃ (pre suf : List (List Value)) (x8 : Int), v8 = .int .i64 x8 ∧ Aside0 (rows = pre ++ suf ∧ x8 = (pre.length : Int) ∧ suf.length ≤ kq ∧ ∀ c ∈ pre, p c = false) ∧ Aside0 (Below w.heap.size w w'))
  case atStart => exact ⟨[], rows, 0, rfl, ⟨rfl, rfl, Nat.le_refl _, fun c hc => by cases hc⟩, ⟨bl⟩⟩
  case round =>
    obtain ⟨pre, suf, x8, rfl, HA, HB⟩ := hrel
    obtain ⟨h1, h2, h3, h4⟩ := HA.out
    cases suf with
    | nil =>
      have c1 : decide (x8 < (rows.length : Int)) = false := decide_eq_false (by rw [h1, List.append_nil]; omega)
      have e1 : idxV p rows = -1 := by rw [h1, List.append_nil]; exact idxV_none h4
      have E1 := ak e1
      clear e1 h1 h2 h3 h4
      go_wp2
      go_ret
      exact ⟨by first | rfl | (rw [E1.out]; rfl), bl⟩
    | cons c suf =>
      have h5 : rows.length = pre.length + (suf.length + 1) := by rw [h1, List.length_append, List.length_cons]
      have hL := HL.out
      have c1 : decide (x8 < (rows.length : Int)) = true := decide_eq_true (by omega)
      have pz : 0 ≤ x8 := by omega
      have qz : x8 < ((rows.length : Nat) : Int) := by omega
      obtain ⟨g, cap, eo, gb, gl_, cl, HG⟩ := Kd.R_form HO.out (by omega)
      injection eo with e1_ _ e3_
      subst e1_ e3_
      have HR := Kd.R_below HO.out HB.out
      obtain ⟨cc, hcl, hM, hcc, hfr⟩ := Kd.R_elem HR [] x8 pz qz
      have hget : rows.getD x8.toNat [] = c := by rw [h1, h2, Int.toNat_natCast]; exact getD_mid _ _ _ _
      rw [hget] at hM
      obtain ⟨rfl, hsz, hone⟩ := hM
      obtain ⟨c0, c1, c2, rfl⟩ : ∃ c0 c1 c2, cc = [c0, c1, c2] := cells3 hsz
      have hx_0 : wr.cell? ⟨g, x8.toNat * 3, none⟩ = some c0 := hcc 0 _ rfl
      have hx_1 : wr.cell? ⟨g, x8.toNat * 3 + 1, none⟩ = some c1 := hcc 1 _ rfl
      have hx_2 : wr.cell? ⟨g, x8.toNat * 3 + 2, none⟩ = some c2 := hcc 2 _ rfl
      obtain ⟨x9, hx9⟩ : ∃ y, y = x8 + 1 := ⟨_, rfl⟩
      have w89 : IntKind.i64.wrap (x8 + 1) = x9 := (i64_w _).trans (by rw [hx9]; unfold wrap64; omega)
      have ho_0 : c0.oneCell' = true := hone _ (by simp)
      have ho_1 : c1.oneCell' = true := hone _ (by simp)
      have ho_2 : c2.oneCell' = true := hone _ (by simp)
      have HC := ak (HP.out _ [c0, c1, c2] (Kept.of_below HB.out _) (by rw [h1]; exact List.mem_append_right _ List.mem_cons_self))
      replace pz := eq_true pz
      replace qz := eq_true qz
      cases hq : p [c0, c1, c2] with
      | true =>
        have e1 : idxV p rows = x8 := by rw [h1, h2]; exact idxV_some h4 hq
        have E1 := ak e1
        rw [hq] at HC
        clear e1 h1 h2 h3 h4 h5 hL HR hcl hcc hfr hsz hone hget hx9 HG gb gl_ cl hq w89
        go_wp2_with (go_at_call 76; refine HC.out.mono ?_; rintro e w' ⟨rfl, hb⟩; replace HB := ak (below_step bl hb); clear hb)
        go_ret
        exact ⟨by first | rfl | (rw [E1.out]; rfl), bl⟩
      | false =>
        have HA2 := ak (show rows = (pre ++ [[c0, c1, c2]]) ++ suf ∧ x9 = ((pre ++ [[c0, c1, c2]]).length : Int) ∧ suf.length ≤ suf.length ∧ ∀ c ∈ pre ++ [[c0, c1, c2]], p c = false from ⟨by rw [h1]; simp, by rw [List.length_append, List.length_singleton]; omega, Nat.le_refl _, fun c hc => by
          rcases List.mem_append.1 hc with hc | hc
          · exact h4 c hc
          · rw [List.mem_singleton.1 hc]; exact hq⟩)
        have H3 := ak h3
        rw [hq] at HC
        clear h1 h2 h3 h4 h5 hL HR hcl hcc hfr hsz hone hget hx9 HG gb gl_ cl hq
        go_wp2_with (go_at_call 76; refine HC.out.mono ?_; rintro e w' ⟨rfl, hb⟩; replace HB := ak (below_step bl hb); clear hb)
        go_roundg suf.length
        case measure => have := H3.out; simp only [List.length_cons] at this; omega
        case rel => exact ⟨pre ++ [[c0, c1, c2]], suf, x9, rfl, HA2, ⟨bl⟩⟩
/-- What is not struck. -/
abbrev keepS (p : List Value → Bool) (l : List (List Value)) : List (List Value) := l.filter fun c => !p c
set_option maxHeartbeats 8000000 in
set_option maxRecDepth 100000 in
theorem deleteFuncS (p : List Value → Bool) (cap_ : Array Value) (rows : List (List Value)) (ok : Nat → Prop) (v : Value) (w0 w : World) (hB : Below w0.heap.size w0 w) (hR : (Kd.raw 3).R 81 w w0.heap.size ok v rows) (hlen : rows.length ≤ 4611686018427387000) (hgd : ∀ c ∈ rows, ∃ (a b : ByteArray) (A : Option Addr) (m k : Nat), c = [Value.string a, Value.string b, Value.slice A m k])
    (hp : ∀ W cs, Kept w W (fun k => some k = v.ownBlock) → cs ∈ rows → Calls Try.prog 76 (#[.agg cs.toArray] ++ cap_) W fun e W' => e = .returned (.bool (p cs)) ∧ Below W.heap.size W W') :
    Calls Try.prog 75 #[v, .func (.func 76) #[] cap_] w fun e w' => ∃ v' : Value, e = .returned v' ∧ (Kd.raw 3).R 81 w' w0.heap.size ok v' (rows.filter fun c => !p c) ∧ v'.ownBlock = v.ownBlock ∧ Below w0.heap.size w0 w' ∧ Kept w w' (fun k => some k = v.ownBlock) := by
  have hIF := indexFuncS p cap_ rows w0.heap.size ok v w hR hlen hp
  have HB := ak hB
  rcases idxV_cases p rows with ⟨e1, hall⟩ | ⟨pre, c, suf, e1, hpre, hc, e2⟩
  · have ef : (rows.filter fun c => !p c) = rows := List.filter_eq_self.2 (fun c hc => by simp [hall c hc])
    rw [e1] at hIF
    rw [ef]
    have HI := ak hIF
    have HR := ak hR
    obtain ⟨Ao, co, eo⟩ := Kd.R_slice hR
    subst eo
    clear hp hIF hR hgd ef e1 hall hB
    go_enter Try.func75, Try.ntmps75
    go_wp2_with (go_at_call 132; refine HI.out.mono ?_; rintro e w1 ⟨rfl, hb⟩; have HK := ak (Kept.of_below hb (fun k => some k = (Value.slice Ao rows.length co).ownBlock)); replace HR := ak (Kd.R_below HR.out hb); replace HB := ak (below_step HB.out hb); clear hb)
    go_ret
    exact ⟨_, rfl, HR.out, rfl, HB.out, HK.out⟩
  · rw [e2] at hIF
    have h0 : 0 < rows.length := by rw [e1, List.length_append, List.length_cons]; omega
    obtain ⟨g, cap, eo, gb_, gl_, cl, HG⟩ := Kd.R_form hR h0
    subst eo
    obtain ⟨n, hn⟩ : ∃ n, n = rows.length := ⟨_, rfl⟩
    rw [← hn] at hR hIF hp ⊢
    have hso : ∀ k, (some k = (Value.slice (some ⟨g, 0, none⟩) n cap).ownBlock) = (k = g) := fun k => by simp [Value.ownBlock]
    simp only [hso] at hp ⊢
    have OKG := ak (show ok g from hR.1 g (by simp [Value.ownBlock]))
    have HI := ak hIF
    have HP := ak hp
    have HO := ak (show (Kd.raw 3).R 81 w w0.heap.size (fun k => k = g) (.slice (some ⟨g, 0, none⟩) n cap) rows from by obtain ⟨_, inner, ho, hr⟩ := hR; exact ⟨fun k hk => by simpa [Value.ownBlock] using hk.symm, inner, ho, hr⟩)
    have GB := ak gb_
    have HN := ak (show rows.length = n ∧ n ≤ 4611686018427387000 from ⟨hn.symm, by omega⟩)
    have HGD := ak hgd
    have E1 := ak (show rows = pre ++ c :: suf ∧ (∀ d ∈ pre, p d = false) ∧ p c = true from ⟨e1, hpre, hc⟩)
    obtain ⟨x5, hx5⟩ : ∃ y, y = (pre.length : Int) := ⟨_, rfl⟩
    obtain ⟨x6, hx6⟩ : ∃ y, y = x5 + 1 := ⟨_, rfl⟩
    rw [← hx5] at HI
    have hb1 : pre.length + (suf.length + 1) = rows.length := by rw [e1, List.length_append, List.length_cons]
    have w56 : IntKind.i64.wrap (x5 + 1) = x6 := (i64_w _).trans (by rw [hx6]; unfold wrap64; omega)
    have ne1 : decide (x5 = -1) = false := decide_eq_false (by omega)
    have ne2 : (x5 == -1) = false := beq_eq_false_iff_ne.2 (by omega)
    have X56 := ak (show x5 = (pre.length : Int) ∧ x6 = ((pre ++ [c]).length : Int) from ⟨hx5, by rw [List.length_append, List.length_singleton]; omega⟩)
    clear hp hIF hR hgd e1 hpre hc e2 hB h0 gb_ gl_ cl HG hso hx5 hx6 hn hlen hb1
    go_enter Try.func75, Try.ntmps75
    go_wp2_with (go_at_call 132; refine HI.out.mono ?_; rintro e w1 ⟨rfl, hb⟩; have HK := ak (Kept.of_below hb (fun k => k = g)); replace HO := ak (Kd.R_below HO.out hb); replace HB := ak (below_step HB.out hb); clear hb)
    go_loopg [5, 6] suf.length (fun kq v5 v6 w' => ∃ (dn kept mid rest : List (List Value)) (x5 x6 : Int), v5 = .int .i64 x5 ∧ v6 = .int .i64 x6 ∧ Aside0 (rows = dn ++ rest ∧ kept = (dn.filter fun c => !p c) ∧ x5 = (kept.length : Int) ∧ x6 = (dn.length : Int) ∧ dn.length = kept.length + mid.length ∧ 0 < mid.length ∧ rest.length ≤ kq) ∧ Aside0 ((Kd.raw 3).R 81 w' w0.heap.size (fun k => k = g) (.slice (some ⟨g, 0, none⟩) n cap) (kept ++ mid ++ rest)) ∧ Aside0 (Kept w w' (fun k => k = g)) ∧ Aside0 (Below w0.heap.size w0 w'))
    case atStart =>
      obtain ⟨h1, h2, h3⟩ := E1.out
      have hf : ((pre ++ [c]).filter fun c => !p c) = pre := by
        rw [List.filter_append, List.filter_eq_self.2 (fun d hd => by simp [h2 d hd])]
        simp [h3]
      exact ⟨pre ++ [c], pre, [c], suf, x5, x6, rfl, rfl, ⟨⟨by rw [h1]; simp, hf.symm, X56.out.1, X56.out.2, by simp, by simp, Nat.le_refl _⟩⟩, ⟨by have := HO.out; rw [h1] at this; rw [List.append_assoc]; exact this⟩, ⟨HK.out⟩, ⟨HB.out⟩⟩
    case round =>
      clear E1 X56 HO HK HB
      obtain ⟨dn, kept, mid, rest, x5, x6, rfl, rfl, HA, HO, HK, HB⟩ := hrel
      obtain ⟨h1, h2, h3, h4, h5, h6, h7⟩ := HA.out
      have hN := HN.out.1
      have hN2 := HN.out.2
      have h8 : rows.length = dn.length + rest.length := by rw [h1, List.length_append]
      have P5 := ak (show 0 ≤ x5 by omega)
      have Q5 := ak (show x5 < (n : Int) by omega)
      have p5 := eq_true P5.out
      have q5 := eq_true Q5.out
      cases rest with
      | nil =>
        have c1 : decide (x6 < (n : Int)) = false := decide_eq_false (by rw [List.length_nil] at h8; omega)
        rw [List.append_nil] at h1 HO
        rw [List.length_nil] at h8
        obtain ⟨cur, hbk, hc1, hc2, hc3, hc4⟩ := raw_blk HO.out
        have hx0 : x5.toNat < n := by omega
        have hcl := fun ty => run_clear_n (P := Try.prog) (n := n - x5.toNat) wr 24 81 ty (.agg #[Value.string (⟨#[]⟩ : ByteArray), Value.string (⟨#[]⟩ : ByteArray), Value.slice none 0 0]) #[Value.string (⟨#[]⟩ : ByteArray), Value.string (⟨#[]⟩ : ByteArray), Value.slice none 0 0] Try.underlying24 Try.zeroValue81 rfl (zeroCells_one _ _ (by decide) (by decide)) g (x5.toNat * 3) (cap - x5.toNat) (by omega) cur hbk (by rw [hc3]; show x5.toNat * 3 + (n - x5.toNat) * 3 ≤ cap * 3; omega)
        obtain ⟨cur', hb', hs', ht'⟩ := setCells_blk g 81 (Builtin.zeroCells #[Value.string (⟨#[]⟩ : ByteArray), Value.string (⟨#[]⟩ : ByteArray), Value.slice none 0 0] (n - x5.toNat)).toList (x5.toNat * 3) wr cur hbk
        have HX := ak (raw_cut (m := x5.toNat) (ok' := ok) HO.out (by omega) hbk hb' hs' (fun k hk => ht' k hk) OKG.out)
        have HF := ak (show kept = (rows.filter fun c => !p c) from by rw [h2, h1])
        have hKB : Kept wr (wr.setCells g (x5.toNat * 3) (Builtin.zeroCells #[Value.string (⟨#[]⟩ : ByteArray), Value.string (⟨#[]⟩ : ByteArray), Value.slice none 0 0] (n - x5.toNat)).toList) (fun k => k = g) := ⟨by rw [setCells_size]; exact Nat.le_refl _, fun i _ hi => setCells_far g _ _ _ i hi⟩
        have HKB := ak hKB
        have cap5 : x5.toNat ≤ cap := by omega
        have cap6 : ¬ (cap = x5.toNat) := by omega
        have cap7 : ¬ (x5.toNat = cap) := by omega
        have le5 : decide (x5 ≤ (n : Int)) = true := decide_eq_true (by omega)
        clear hb' hs' ht' h1 h2 h3 h4 h5 h6 h7 h8 hN hN2 hbk hc1 hc2 hc3 hc4 hKB HA
        go_wp2
        go_ret
        exact ⟨_, rfl, by rw [← HF.out]; exact HX.out, rfl, setCells_below GB.out _ _ _ HB.out, Kept.then_ HK.out HKB.out (fun k hk => .inl hk)⟩
      | cons c0 rest =>
        rw [List.length_cons] at h8
        have pz : 0 ≤ x6 := by omega
        have qz : x6 < (n : Int) := by omega
        have c1 : decide (x6 < (n : Int)) = true := decide_eq_true qz
        obtain ⟨a, b, A, m, k, rfl⟩ := HGD.out c0 (by rw [h1]; exact List.mem_append_right _ List.mem_cons_self)
        have HM := ak (show [Value.string a, Value.string b, Value.slice A m k] ∈ rows from by rw [h1]; exact List.mem_append_right _ List.mem_cons_self)
        have GL := ak (Kd.R_lt HO.out g (by simp [Value.ownBlock]))
        obtain ⟨cc, hcl, hM, hcc, hfr⟩ := Kd.R_elem HO.out [] x6 pz qz
        have hget : (kept ++ mid ++ ([Value.string a, Value.string b, Value.slice A m k] :: rest)).getD x6.toNat [] = [Value.string a, Value.string b, Value.slice A m k] := by
          rw [show x6.toNat = (kept ++ mid).length from by rw [List.length_append]; omega]
          exact getD_mid _ _ _ _
        rw [hget] at hM
        obtain ⟨rfl, _, _⟩ := hM
        have hx6_0 : wr.cell? ⟨g, x6.toNat * 3, none⟩ = some (Value.string a) := hcc 0 _ rfl
        have hx6_1 : wr.cell? ⟨g, x6.toNat * 3 + 1, none⟩ = some (Value.string b) := hcc 1 _ rfl
        have hx6_2 : wr.cell? ⟨g, x6.toNat * 3 + 2, none⟩ = some (Value.slice A m k) := hcc 2 _ rfl
        obtain ⟨x7, hx7⟩ : ∃ y, y = x5 + 1 := ⟨_, rfl⟩
        have w57 : IntKind.i64.wrap (x5 + 1) = x7 := (i64_w _).trans (by rw [hx7]; unfold wrap64; omega)
        obtain ⟨x8, hx8⟩ : ∃ y, y = x6 + 1 := ⟨_, rfl⟩
        have w68 : IntKind.i64.wrap (x6 + 1) = x8 := (i64_w _).trans (by rw [hx8]; unfold wrap64; omega)
        have RA := ak (show rows = (dn ++ [[Value.string a, Value.string b, Value.slice A m k]]) ++ rest ∧ x8 = ((dn ++ [[Value.string a, Value.string b, Value.slice A m k]]).length : Int) from ⟨by rw [h1]; simp, by rw [List.length_append, List.length_singleton]; omega⟩)
        have H7 := ak h7
        cases hq : p [Value.string a, Value.string b, Value.slice A m k] with
        | true =>
          have RB := ak (show kept = ((dn ++ [[Value.string a, Value.string b, Value.slice A m k]]).filter fun c => !p c) ∧ x5 = (kept.length : Int) ∧ (dn ++ [[Value.string a, Value.string b, Value.slice A m k]]).length = kept.length + (mid ++ [[Value.string a, Value.string b, Value.slice A m k]]).length ∧ 0 < (mid ++ [[Value.string a, Value.string b, Value.slice A m k]]).length from ⟨by rw [List.filter_append, ← h2]; simp [hq], h3, by rw [List.length_append, List.length_append, List.length_singleton]; omega, by rw [List.length_append, List.length_singleton]; omega⟩)
          have HC := ak (show ∀ W, Kept w W (fun k => k = g) → Calls Try.prog 76 (#[.agg ([Value.string a, Value.string b, Value.slice A m k] : List Value).toArray] ++ cap_) W fun e W' => e = .returned (.bool true) ∧ Below W.heap.size W W' from fun W hk => by have := HP.out W _ hk HM.out; rw [hq] at this; exact this)
          clear h1 h2 h3 h4 h5 h6 h7 h8 hN hN2 hx7 hx8 hq hget hcl hcc hfr HA
          go_wp2_with (first | ((with_reducible refine gate_dst (N := 7) rfl ?_); refine bx 7 #[Value.string (⟨#[]⟩ : ByteArray), Value.string (⟨#[]⟩ : ByteArray), Value.slice none 0 0] 81 ?_; intro gb hg w1 hbox hb; have BK := ak hbox; have GE := ak (show w.heap.size ≤ gb from by rw [hg]; exact HK.out.1); have G0 := ak (show w0.heap.size ≤ gb from by rw [hg]; exact below_size HB.out); have NG := ak (show g ≠ gb from by rw [hg]; exact Nat.ne_of_lt GL.out); replace HO := ak (Kd.R_below HO.out hb); replace HK := ak (Kept.below HK.out hb); replace HB := ak (below_step HB.out hb); clear hb hbox hg; obtain ⟨hcz_0, hcz_1, hcz_2, hfz_0, hfz_1, hfz_2⟩ := cz3 BK) | (go_at_call 76; (refine (HC.out _ ?sk).mono ?_); (case sk => repeat (first | (with_reducible first | exact HK.out | apply Kept.alloc | apply Kept.drewN | apply Kept.drew | refine Kept.setCell ?_ (.inr GE.out) _) | exact HK.out)); rintro e w3 ⟨rfl, hb⟩; replace BK := ak (blk_below (blk_put (cs := #[Value.string a, Value.string b, Value.slice none 0 0]) (blk_put (cs := #[Value.string a, Value.string (⟨#[]⟩ : ByteArray), Value.slice none 0 0]) (blk_put (cs := #[Value.string (⟨#[]⟩ : ByteArray), Value.string (⟨#[]⟩ : ByteArray), Value.slice none 0 0]) BK.out 0 _ rfl) 1 _ rfl) 2 _ rfl) hb); replace HO := ak (Kd.R_below (Kd.R_far (Kd.R_far (Kd.R_far HO.out (p := ⟨gb, 0, none⟩) (fun k hk => by rw [hk]; exact NG.out) (Value.string a)) (p := ⟨gb, 1, none⟩) (fun k hk => by rw [hk]; exact NG.out) (Value.string b)) (p := ⟨gb, 2, none⟩) (fun k hk => by rw [hk]; exact NG.out) (Value.slice A m k)) hb); replace HK := ak (Kept.below (S := fun k => k = g) (by repeat (first | (with_reducible first | exact HK.out | apply Kept.alloc | apply Kept.drewN | apply Kept.drew | refine Kept.setCell ?_ (.inr GE.out) _) | exact HK.out)) hb); replace HB := ak (below_step (bl1 G0) hb); clear hb; obtain ⟨hcz_0, hcz_1, hcz_2, hfz_0, hfz_1, hfz_2⟩ := cz3 BK; obtain ⟨cc, hcl, hM, hcc, hfr⟩ := Kd.R_elem HO.out [] x5 P5.out Q5.out; obtain ⟨o0, o1, o2, rfl⟩ := cells3 hcl; have hx5_0 : w3.cell? ⟨g, x5.toNat * 3, none⟩ = some o0 := hcc 0 _ rfl; have hx5_1 : w3.cell? ⟨g, x5.toNat * 3 + 1, none⟩ = some o1 := hcc 1 _ rfl; have hx5_2 : w3.cell? ⟨g, x5.toNat * 3 + 2, none⟩ = some o2 := hcc 2 _ rfl; have hf5_0 : w3.frozen? ⟨g, x5.toNat * 3, none⟩ = false := hfr 0; have hf5_1 : w3.frozen? ⟨g, x5.toNat * 3 + 1, none⟩ = false := hfr 1; have hf5_2 : w3.frozen? ⟨g, x5.toNat * 3 + 2, none⟩ = false := hfr 2; have HS := Kd.R_seg HO.out x5 P5.out Q5.out (seg := [Value.string a, Value.string b, Value.slice A m k]) (j := 0) hcl hcc (show 0 + 3 ≤ 3 from by decide) (x' := [Value.string a, Value.string b, Value.slice A m k]) (okp := fun _ => False) ⟨rfl, rfl, by simp [Value.oneCell']⟩ (fun k hk => hk.elim); clear hcl hM hcc hfr))
          go_roundg rest.length
          case measure => have := H7.out; simp only [List.length_cons] at this; omega
          case rel => exact ⟨dn ++ [[Value.string a, Value.string b, Value.slice A m k]], kept, mid ++ [[Value.string a, Value.string b, Value.slice A m k]], rest, x5, x8, rfl, rfl, ⟨⟨RA.out.1, RB.out.1, RB.out.2.1, RA.out.2, RB.out.2.2.1, RB.out.2.2.2, Nat.le_refl _⟩⟩, ⟨by rw [show kept ++ (mid ++ [[Value.string a, Value.string b, Value.slice A m k]]) ++ rest = kept ++ mid ++ [Value.string a, Value.string b, Value.slice A m k] :: rest from by simp]; exact HO.out⟩, ⟨HK.out⟩, ⟨HB.out⟩⟩
        | false =>
          obtain ⟨m0, mid1, rfl⟩ : ∃ m0 mid1, mid = m0 :: mid1 := by
            cases mid with
            | nil => simp at h6
            | cons m0 mid1 => exact ⟨m0, mid1, rfl⟩
          have RB := ak (show kept ++ [[Value.string a, Value.string b, Value.slice A m k]] = ((dn ++ [[Value.string a, Value.string b, Value.slice A m k]]).filter fun c => !p c) ∧ x7 = ((kept ++ [[Value.string a, Value.string b, Value.slice A m k]]).length : Int) ∧ (dn ++ [[Value.string a, Value.string b, Value.slice A m k]]).length = (kept ++ [[Value.string a, Value.string b, Value.slice A m k]]).length + (mid1 ++ [[Value.string a, Value.string b, Value.slice A m k]]).length ∧ 0 < (mid1 ++ [[Value.string a, Value.string b, Value.slice A m k]]).length from ⟨by rw [List.filter_append, ← h2]; simp [hq], by rw [List.length_append, List.length_singleton]; omega, by have l5 : dn.length = kept.length + (mid1.length + 1) := h5; rw [List.length_append, List.length_append, List.length_append, List.length_singleton]; omega, by rw [List.length_append, List.length_singleton]; omega⟩)
          have RC := ak (show ((kept ++ (m0 :: mid1) ++ ([Value.string a, Value.string b, Value.slice A m k] :: rest)).set x5.toNat [Value.string a, Value.string b, Value.slice A m k]) = (kept ++ [[Value.string a, Value.string b, Value.slice A m k]]) ++ (mid1 ++ [[Value.string a, Value.string b, Value.slice A m k]]) ++ rest from by
            rw [show x5.toNat = kept.length from by omega, List.append_assoc, List.cons_append, set_mid]
            simp)
          have HC := ak (show ∀ W, Kept w W (fun k => k = g) → Calls Try.prog 76 (#[.agg ([Value.string a, Value.string b, Value.slice A m k] : List Value).toArray] ++ cap_) W fun e W' => e = .returned (.bool false) ∧ Below W.heap.size W W' from fun W hk => by have := HP.out W _ hk HM.out; rw [hq] at this; exact this)
          clear h1 h2 h3 h4 h5 h6 h7 h8 hN hN2 hx7 hx8 hq hget hcl hcc hfr HA
          go_wp2_with (first | ((with_reducible refine gate_dst (N := 7) rfl ?_); refine bx 7 #[Value.string (⟨#[]⟩ : ByteArray), Value.string (⟨#[]⟩ : ByteArray), Value.slice none 0 0] 81 ?_; intro gb hg w1 hbox hb; have BK := ak hbox; have GE := ak (show w.heap.size ≤ gb from by rw [hg]; exact HK.out.1); have G0 := ak (show w0.heap.size ≤ gb from by rw [hg]; exact below_size HB.out); have NG := ak (show g ≠ gb from by rw [hg]; exact Nat.ne_of_lt GL.out); replace HO := ak (Kd.R_below HO.out hb); replace HK := ak (Kept.below HK.out hb); replace HB := ak (below_step HB.out hb); clear hb hbox hg; obtain ⟨hcz_0, hcz_1, hcz_2, hfz_0, hfz_1, hfz_2⟩ := cz3 BK) | (go_at_call 76; (refine (HC.out _ ?sk).mono ?_); (case sk => repeat (first | (with_reducible first | exact HK.out | apply Kept.alloc | apply Kept.drewN | apply Kept.drew | refine Kept.setCell ?_ (.inr GE.out) _) | exact HK.out)); rintro e w3 ⟨rfl, hb⟩; replace BK := ak (blk_below (blk_put (cs := #[Value.string a, Value.string b, Value.slice none 0 0]) (blk_put (cs := #[Value.string a, Value.string (⟨#[]⟩ : ByteArray), Value.slice none 0 0]) (blk_put (cs := #[Value.string (⟨#[]⟩ : ByteArray), Value.string (⟨#[]⟩ : ByteArray), Value.slice none 0 0]) BK.out 0 _ rfl) 1 _ rfl) 2 _ rfl) hb); replace HO := ak (Kd.R_below (Kd.R_far (Kd.R_far (Kd.R_far HO.out (p := ⟨gb, 0, none⟩) (fun k hk => by rw [hk]; exact NG.out) (Value.string a)) (p := ⟨gb, 1, none⟩) (fun k hk => by rw [hk]; exact NG.out) (Value.string b)) (p := ⟨gb, 2, none⟩) (fun k hk => by rw [hk]; exact NG.out) (Value.slice A m k)) hb); replace HK := ak (Kept.below (S := fun k => k = g) (by repeat (first | (with_reducible first | exact HK.out | apply Kept.alloc | apply Kept.drewN | apply Kept.drew | refine Kept.setCell ?_ (.inr GE.out) _) | exact HK.out)) hb); replace HB := ak (below_step (bl1 G0) hb); clear hb; obtain ⟨hcz_0, hcz_1, hcz_2, hfz_0, hfz_1, hfz_2⟩ := cz3 BK; obtain ⟨cc, hcl, hM, hcc, hfr⟩ := Kd.R_elem HO.out [] x5 P5.out Q5.out; obtain ⟨o0, o1, o2, rfl⟩ := cells3 hcl; have hx5_0 : w3.cell? ⟨g, x5.toNat * 3, none⟩ = some o0 := hcc 0 _ rfl; have hx5_1 : w3.cell? ⟨g, x5.toNat * 3 + 1, none⟩ = some o1 := hcc 1 _ rfl; have hx5_2 : w3.cell? ⟨g, x5.toNat * 3 + 2, none⟩ = some o2 := hcc 2 _ rfl; have hf5_0 : w3.frozen? ⟨g, x5.toNat * 3, none⟩ = false := hfr 0; have hf5_1 : w3.frozen? ⟨g, x5.toNat * 3 + 1, none⟩ = false := hfr 1; have hf5_2 : w3.frozen? ⟨g, x5.toNat * 3 + 2, none⟩ = false := hfr 2; have HS := Kd.R_seg HO.out x5 P5.out Q5.out (seg := [Value.string a, Value.string b, Value.slice A m k]) (j := 0) hcl hcc (show 0 + 3 ≤ 3 from by decide) (x' := [Value.string a, Value.string b, Value.slice A m k]) (okp := fun _ => False) ⟨rfl, rfl, by simp [Value.oneCell']⟩ (fun k hk => hk.elim); clear hcl hM hcc hfr) | ((with_reducible refine gate_store (t := 81) (p := 33) rfl ?_); refine store_event (t := 81) (p := 33) (v := ?vo_d) (w1 := (((w3.setCell ⟨g, x5.toNat * 3, none⟩ (Value.string a)).setCell ⟨g, x5.toNat * 3 + 1, none⟩ (Value.string b)).setCell ⟨g, x5.toNat * 3 + 2, none⟩ (Value.slice A m k))) ?hg ?ho ?hn ?hr ?_; (case ho => rfl); (case hg => rfl); (case hn => rfl); (case hr => first | (go_simp; done) | (go_simp; rfl)); intro w4 hw; have hg : w3.grownBy w4 (some g) := (by rw [hw]; exact HS.2); have hp_ : (Kd.raw 3).R 81 w4 w0.heap.size (fun k => k = g) (.slice (some ⟨g, 0, none⟩) n cap) ((kept ++ (m0 :: mid1) ++ ([Value.string a, Value.string b, Value.slice A m k] :: rest)).set x5.toNat [Value.string a, Value.string b, Value.slice A m k]) := (by rw [hw]; exact HS.1); clear HS; replace HK := ak (Kept.of_grown (S := fun k => k = g) hg HK.out (fun k e_ => .inl (by injection e_ with e_; exact e_.symm))); replace HB := ak (by rw [hw]; exact below_set (below_set (below_set (HB.out) GB.out) GB.out) GB.out : Below w0.heap.size w0 w4); replace HO := ak hp_; clear hg hw hp_))
          go_roundg rest.length
          case measure => have := H7.out; simp only [List.length_cons] at this; omega
          case rel => exact ⟨dn ++ [[Value.string a, Value.string b, Value.slice A m k]], kept ++ [[Value.string a, Value.string b, Value.slice A m k]], mid1 ++ [[Value.string a, Value.string b, Value.slice A m k]], rest, x7, x8, rfl, rfl, ⟨⟨RA.out.1, RB.out.1, RB.out.2.1, RA.out.2, RB.out.2.2.1, RB.out.2.2.2, Nat.le_refl _⟩⟩, ⟨by rw [← RC.out]; exact HO.out⟩, ⟨HK.out⟩, ⟨HB.out⟩⟩

end Go.Proofs.Ytplekidnlofioaa.Q
namespace Go.Proofs.Ytplekidnlofioaa.Q
open Go.RowKit Go.Proofs.YtplekidnlofioaaW.PrintWords Go.Proofs.YtplekidnlofioaaW.PrintLast Go.Proofs.YtplekidnlofioaaW.PrintMore
attribute [local go_sem] max2_int min2_int max_two min_two max_three min_three max_four min_four
set_option linter.unusedVariables false
set_option linter.unusedSimpArgs false
theorem rounds_of {α : Type} {f : Nat → Option α} {r : α} (h : Ev f r) : ∃ k, f k = some r := Ev.rounds h
theorem wrap_eq (x y : Int) (h : y = x + 1) (h0 : 0 ≤ x) (h1 : x ≤ 4611686018427387904) : IntKind.i64.wrap (x + 1) = y := (i64_w _).trans (by rw [h]; unfold wrap64; omega)
theorem kt {p : Prop} (h : p := by repeat (first | (with_reducible first | exact HK.out | apply Kept.alloc | apply Kept.drewN | apply Kept.drew) | exact HK.out)) : p := h
set_option maxHeartbeats 8000000 in
set_option maxRecDepth 100000 in
theorem laws_markSeriesS_calls (P0_ : Nat → Prop) (u : Value) (l : List S81) (a : Int) (w0 w : World) (hB : Below w0.heap.size w0 w) (ho : Kd.S k81 81 w w0.heap.size P0_ u l) (h0 : 0 ≤ a) (h1 : a + mkN l ≤ 4611686018427387000) (hl : l.length ≤ 4611686018427387000) :
    Calls Try.prog 25 #[u, .int .i64 a] w fun e w' => e = .returned (.int .i64 (a + mkN l)) ∧ Kd.S k81 81 w' w0.heap.size (fun k_ => P0_ k_ ∨ w.heap.size ≤ k_) u (markS a l) ∧ Below w0.heap.size w0 w' ∧ Kept w w' P0_ := by
  have HO0 := ak (show Kd.S k81 81 w w0.heap.size (fun k_ => (P0_ k_ ∨ w.heap.size ≤ k_)) u l from Kd.S_mono ho (fun k_ hk => .inl hk))
  have HK := ak (Kept.refl w P0_)
  have HW0 := ak hB.size
  have HB := ak hB
  have AR := ak (show 0 ≤ a ∧ a + mkN l ≤ 4611686018427387000 ∧ l.length ≤ 4611686018427387000 from ⟨h0, h1, hl⟩)
  clear hB ho h0 h1 hl
  go_enter Try.func25, Try.ntmps25
  go_wp2
  go_loopg [1, 5] l.length (fun kq v1 v5 w' => ∃ (pre suf : List S81) (x1 x5 : Int), v1 = .int .i64 x1 ∧ v5 = .int .i64 x5 ∧ Aside0 (l = pre ++ suf ∧ x1 = a + mkN pre ∧ x5 = (pre.length : Int) ∧ suf.length ≤ kq) ∧ Aside0 (Kd.S k81 81 w' w0.heap.size (fun k_ => (P0_ k_ ∨ w.heap.size ≤ k_)) u (markS a pre ++ suf)) ∧ Aside0 (Kept w w' P0_) ∧ Aside0 (Below w0.heap.size w0 w'))
  case atStart => exact ⟨[], l, a, 0, rfl, rfl, ⟨rfl, by simp [mkN], rfl, Nat.le_refl _⟩, ⟨ks HO0⟩, ⟨kt⟩, ⟨bl⟩⟩
  case round =>
    obtain ⟨pre, suf, x1, x5, rfl, rfl, HA, HO, HK, HB⟩ := hrel
    cases suf with
    | nil =>
      obtain ⟨hl, e1, e5, _⟩ := HA.out
      rw [List.append_nil] at hl
      subst hl
      rw [List.append_nil] at HO
      obtain ⟨Ao, co, eo⟩ := Kd.S_slice HO.out
      have c3b0 : decide (x5 < ((markS a l).length : Int)) = false := decide_eq_false (by rw [markS_len, e5]; omega)
      subst eo
      clear e5
      go_wp2
      go_ret
      exact ⟨by first | rfl | (rw [e1]; rfl), ks HO, bl, kt⟩
    | cons s suf =>
      obtain ⟨hl, e1, e5, hk⟩ := HA.out
      obtain ⟨a0, a1, a2⟩ := AR.out
      have hn1 := mkN_nn pre
      have hn2 := mkN_nn suf
      have hn3 : mkN l = mkN pre + (2 + 2 * (s.f2.length : Int) + mkN suf) := by rw [hl, mkN_app]; rfl
      have hl3 : l.length = pre.length + (suf.length + 1) := by rw [hl, List.length_append, List.length_cons]
      obtain ⟨k1, hk1⟩ := rounds_of (markT_ev x1 (by omega))
      obtain ⟨x2, hx2⟩ : ∃ y, y = x1 + 1 := ⟨_, rfl⟩
      obtain ⟨x3, hx3⟩ : ∃ y, y = x2 + 1 := ⟨_, rfl⟩
      obtain ⟨x6, hx6⟩ : ∃ y, y = x5 + 1 := ⟨_, rfl⟩
      obtain ⟨k2, hk2⟩ := rounds_of (markT_ev x2 (by omega))
      obtain ⟨k3, hk3⟩ := rounds_of (markPointS_ev s.f2 x3 (by omega) (by omega))
      obtain ⟨x4, hx4⟩ : ∃ y, y = x3 + 2 * (s.f2.length : Int) := ⟨_, rfl⟩
      rw [← hx4] at hk3
      have w12 := wrap_eq x1 x2 hx2 (by omega) (by omega)
      have w23 := wrap_eq x2 x3 hx3 (by omega) (by omega)
      have w56 := wrap_eq x5 x6 hx6 (by omega) (by omega)
      have K1 := ak hk1
      have K2 := ak hk2
      have K3 := ak hk3
      have HN := ak (show x4 = a + mkN (pre ++ [s]) ∧ x6 = ((pre ++ [s]).length : Int) ∧ l = (pre ++ [s]) ++ suf from ⟨by rw [mkN_app]; simp only [mkN]; omega, by rw [List.length_append, List.length_singleton]; omega, by rw [hl]; simp⟩)
      have HL := ak (show markS a pre ++ ⟨markT x1, markT x2, markP x3 s.f2⟩ :: suf = markS a (pre ++ [s]) ++ suf from by rw [markS_app]; simp only [markS, List.append_assoc, List.singleton_append]; rw [← e1, ← hx2, show x1 + 2 = x3 from by omega])
      have htn : x5.toNat = (markS a pre).length := by rw [markS_len]; omega
      have hg1 : ∀ y : S81, (markS a pre ++ y :: suf).getD x5.toNat z81 = y := fun y => by rw [htn]; exact getD_mid _ _ _ _
      have hg2 : ∀ y z : S81, (markS a pre ++ y :: suf).set x5.toNat z = markS a pre ++ z :: suf := fun y z => by rw [htn]; exact set_mid _ _ _ _
      have hll : ∀ y : S81, (markS a pre ++ y :: suf).length = l.length := fun y => by rw [List.length_append, List.length_cons, markS_len, hl3]
      have G1 := ak hg1
      have G2 := ak hg2
      obtain ⟨n, hn⟩ : ∃ n, n = l.length := ⟨_, rfl⟩
      have GL := ak (show ∀ y : S81, (markS a pre ++ y :: suf).length = n from fun y => (hll y).trans hn.symm)
      have pz : 0 ≤ x5 := by omega
      have qz : x5 < (n : Int) := by omega
      have HM := ak hk
      obtain ⟨g, cap, eo, gb, gl_, cl, HG⟩ := Kd.S_form HO.out (by rw [hll]; omega)
      rw [hll, ← hn] at eo
      have GB := ak gb
      subst eo
      have PZ := ak pz
      have QZ := ak qz
      have c3b0 : decide (x5 < (n : Int)) = true := decide_eq_true qz
      replace pz := eq_true pz
      replace qz := eq_true qz
      clear hk1 hk2 hk3 hx4 hx2 hx3 hx6 e1 e5 hk hl hl3 hn1 hn2 hn3 htn hg1 hg2 hll hn a0 a1 a2 gb gl_ cl HG
      go_wp2_with (first | ((with_reducible refine gate_dst (N := 15) rfl ?_); refine gl (some 15) Try.func82 #[.int .i64 x1] ?_; (refine (laws_markText.calls _ x1 (markT x1) _ K1.out).mono ?_); rintro e w1 ⟨rfl, hb⟩; refine ⟨_, rfl, ?_⟩; replace HO := ak (Kd.S_below (ks HO) hb); replace HK := ak (Kept.below (S := P0_) kt hb); replace HB := ak (below_step bl hb); clear hb; obtain ⟨oki, c_, hcl, hM, hcc, hfr, hoki, hH⟩ := Kd.S_elem HO.out z81 x5 PZ.out QZ.out; rw [G1.out] at hM; obtain ⟨v2, rfl, hR⟩ := k81_openM hM; have hx_ : w1.cell? ⟨g, x5.toNat * 3, none⟩ = some (.string s.f0) := hcc 0 _ rfl; have hf_ : w1.frozen? ⟨g, x5.toNat * 3, none⟩ = false := hfr 0; have HS := Kd.S_seg (okg := fun _ => False) (Kd.H_mono hH (fun k hk => ⟨hk, fun h => h⟩)) PZ.out QZ.out (seg := [.string (markT x1)]) (j := 0) (show 0 + 1 ≤ 3 from by decide) (x' := (⟨markT x1, s.f1, s.f2⟩ : S81)) (k81_mkM _ _ _ (⟨markT x1, s.f1, s.f2⟩ : S81) hR) (fun k hk => .inl hk) (fun k hk => hk.elim); clear hcl hcc hfr hM hH hoki hR) | ((with_reducible refine gate_store (t := 9) (p := 17) rfl ?_); refine store_event (t := 9) (p := 17) (v := ?vo_w) (w1 := (w1.setCell ⟨g, x5.toNat * 3, none⟩ (.string (markT x1)))) ?hg ?ho ?hn ?hr ?_; (case ho => rfl); (case hg => rfl); (case hn => rfl); (case hr => first | (go_simp; done) | (go_simp; rfl)); intro w2 hw; have hg : w1.grownBy w2 (some g) := (by rw [hw]; exact HS.2); have hp_ : Kd.S k81 81 w2 w0.heap.size (fun k_ => (P0_ k_ ∨ w.heap.size ≤ k_)) (.slice (some ⟨g, 0, none⟩) n cap) (markS a pre ++ (⟨markT x1, s.f1, s.f2⟩ : S81) :: suf) := (by rw [hw, ← G2.out]; exact HS.1); clear HS hx_ hf_; replace HK := ak (Kept.of_grown (S := P0_) hg kt (fun k_ e_ => (Kd.S_R HO.out).1 k_ e_)); replace HB := ak (by rw [hw]; exact below_set HB.out GB.out : Below w0.heap.size w0 w2); replace HO := ak hp_; clear hg hw hp_) | ((with_reducible refine gate_dst (N := 23) rfl ?_); refine gl (some 23) Try.func82 #[.int .i64 x2] ?_; (refine (laws_markText.calls _ x2 (markT x2) _ K2.out).mono ?_); rintro e w3 ⟨rfl, hb⟩; refine ⟨_, rfl, ?_⟩; replace HO := ak (Kd.S_below (ks HO) hb); replace HK := ak (Kept.below (S := P0_) kt hb); replace HB := ak (below_step bl hb); clear hb; obtain ⟨oki, c_, hcl, hM, hcc, hfr, hoki, hH⟩ := Kd.S_elem HO.out z81 x5 PZ.out QZ.out; rw [G1.out] at hM; obtain ⟨v2, rfl, hR⟩ := k81_openM hM; have hx_ : w3.cell? ⟨g, x5.toNat * 3 + 1, none⟩ = some (.string s.f1) := hcc 1 _ rfl; have hf_ : w3.frozen? ⟨g, x5.toNat * 3 + 1, none⟩ = false := hfr 1; have HS := Kd.S_seg (okg := fun _ => False) (Kd.H_mono hH (fun k hk => ⟨hk, fun h => h⟩)) PZ.out QZ.out (seg := [.string (markT x2)]) (j := 1) (show 1 + 1 ≤ 3 from by decide) (x' := (⟨markT x1, markT x2, s.f2⟩ : S81)) (k81_mkM _ _ _ (⟨markT x1, markT x2, s.f2⟩ : S81) hR) (fun k hk => .inl hk) (fun k hk => hk.elim); clear hcl hcc hfr hM hH hoki hR) | ((with_reducible refine gate_store (t := 9) (p := 25) rfl ?_); refine store_event (t := 9) (p := 25) (v := ?vo_x) (w1 := (w3.setCell ⟨g, x5.toNat * 3 + 1, none⟩ (.string (markT x2)))) ?hg ?ho ?hn ?hr ?_; (case ho => rfl); (case hg => rfl); (case hn => rfl); (case hr => first | (go_simp; done) | (go_simp; rfl)); intro w4 hw; have hg : w3.grownBy w4 (some g) := (by rw [hw]; exact HS.2); have hp_ : Kd.S k81 81 w4 w0.heap.size (fun k_ => (P0_ k_ ∨ w.heap.size ≤ k_)) (.slice (some ⟨g, 0, none⟩) n cap) (markS a pre ++ (⟨markT x1, markT x2, s.f2⟩ : S81) :: suf) := (by rw [hw, ← G2.out]; exact HS.1); clear HS hx_ hf_; replace HK := ak (Kept.of_grown (S := P0_) hg kt (fun k_ e_ => (Kd.S_R HO.out).1 k_ e_)); replace HB := ak (by rw [hw]; exact below_set HB.out GB.out : Below w0.heap.size w0 w4); replace HO := ak hp_; clear hg hw hp_; obtain ⟨oki, c_, hcl, hM, hcc, hoki, hH⟩ := Kd.S_lend HO.out z81 x5 PZ.out QZ.out; rw [G1.out] at hM; obtain ⟨v2, rfl, hR⟩ := k81_openM hM; obtain ⟨A2, c2, ev⟩ := Kd.R_slice hR; subst ev; have hx2 : w4.cell? ⟨g, x5.toNat * 3 + 2, none⟩ = some (.slice A2 s.f2.length c2) := hcc 2 _ rfl; have HR2 := ak hR; have HH2 := ak hH; have HI2 := ak hoki; clear hcl hcc hM hR hH hoki) | ((with_reducible refine gate_dst (N := 34) rfl ?_); refine gl (some 34) Try.func83 #[.slice A2 s.f2.length c2, .int .i64 x3] ?_; (refine (laws_markPointS.calls _ oki _ s.f2 x3 x4 (markP x3 s.f2) w0 _ ?s1 ?s2 K3.out).mono ?_); (case s1 => exact bl); (case s2 => exact HR2.out); rintro e w5 ⟨rfl, hR5, hb5, hk5⟩; refine ⟨_, rfl, ?_⟩; have hS5 := Kd.H_back (Kd.H_kept (Kd.H_widen HH2.out) hk5 (fun k hk hn hs => hn (.inl hs))) (k81_mkM _ _ _ (⟨markT x1, markT x2, markP x3 s.f2⟩ : S81) hR5) (fun k hk => hk.elim .inl (fun h2 => .inr ⟨.inr (Nat.le_trans HK.out.1 h2), h2⟩)); rw [G2.out] at hS5; replace HK := ak (Kept.then_ (S := P0_) kt hk5 (fun k hs => (HI2.out k hs).1)); replace HB := ak hb5; replace HO := ak hS5; clear hS5 hR5 hb5 hk5 HR2 HH2 HI2 hx2))
      go_roundg suf.length
      case measure => have := HM.out; simp only [List.length_cons] at this; omega
      case rel => exact ⟨pre ++ [s], suf, x4, x6, rfl, rfl, ⟨⟨HN.out.2.2, HN.out.1, HN.out.2.1, Nat.le_refl _⟩⟩, ⟨by rw [← HL.out]; exact ks HO⟩, ⟨kt⟩, ⟨bl⟩⟩
end Go.Proofs.Ytplekidnlofioaa.Q
namespace Go.Proofs.Ytplekidnlofioaa.Q
open Go.RowKit Go.Proofs.YtplekidnlofioaaW.PrintWords Go.Proofs.YtplekidnlofioaaW.PrintLast Go.Proofs.YtplekidnlofioaaW.PrintMore
attribute [local go_sem] max2_int min2_int max_two min_two max_three min_three max_four min_four
set_option linter.unusedVariables false
set_option linter.unusedSimpArgs false
def OkF (f : Nat → Nat) (g b0 T1 i : Nat) : Nat → Prop := fun k => (b0 ≤ k ∧ k < T1 ∧ k ≠ g ∧ f k < i) ∨ T1 ≤ k
def PiF (f : Nat → Nat) (g b0 T1 i : Nat) : Nat → Prop := fun k => (b0 ≤ k ∧ k < T1 ∧ k ≠ g) ∧ f k = i
theorem todo_of_S2 {b0 n c : Nat} {A : Option Addr} {l : List S81} {W : World} (h : Kd.S k81 81 W b0 (fun _ => True) (.slice A n c) l) : ∃ f g, (0 < l.length → A = some ⟨g, 0, none⟩ ∧ b0 ≤ g ∧ g < W.heap.size) ∧ Todo f g b0 W.heap.size l 0 W := by
  by_cases hl : 0 < l.length
  · obtain ⟨g, cap, eo, gb, gl_, _⟩ := Kd.S_form h hl
    injection eo with e1 _ _
    subst e1
    obtain ⟨f, hT⟩ := todo_of_S h
    exact ⟨f, g, fun _ => ⟨rfl, gb, gl_⟩, hT⟩
  · exact ⟨fun _ => 0, 0, fun h => absurd h hl, fun j s _ hs => by have := (List.getElem?_eq_some_iff.1 hs).1; omega⟩
set_option maxHeartbeats 16000000 in
set_option maxRecDepth 100000 in
theorem impl_ForgetBefore_calls (A0 : Option Addr) (c0 : Nat) (l : List S81) (t : Int) (w : World) (hr0 : Kd.C k81 w A0 l.length l) (hc0 : l.length ≤ c0) (hx : l.length ≤ 1048576) (hf : ∀ s ∈ l, s.f2.length ≤ 1048576) (hfit : ∀ s ∈ l, fitS s) :
    Calls Try.prog 18 #[.slice A0 l.length c0, .int .i64 t] w fun e w' => ∃ v : Value, e = .returned (.tuple #[v, .bool (forgV t l).2]) ∧ Kd.S k81 81 w' w.heap.size (fun _ => True) v (forgV t l).1 ∧ Below w.heap.size w w' := by
  obtain ⟨k1, hk1⟩ := rounds_of (impl_StoreOk_ev l (by omega) hfit)
  obtain ⟨k2, hk2⟩ := rounds_of (impl_ownSeries_ev l hx hf)
  have K1 := ak hk1
  have K2 := ak hk2
  have HR0 := ak hr0
  have HC0 := ak hc0
  have HB := ak (Below.refl w.heap.size w)
  have HX := ak hx
  have HF := ak hf
  clear hk1 hk2 hr0 hc0 hx hf hfit
  have hmf : ∀ (fn : Fn) (first cap : Array Value) (w : World), (Instr.makeFunc fn first cap).run Try.prog w = .ok (.func fn first cap) w := fun _ _ _ _ => rfl
  cases hs : storeOk l with
  | false =>
    have ev : forgV t l = (l, false) := by unfold forgV; rw [if_neg (by rw [hs]; exact Bool.false_ne_true)]
    rw [hs] at K1
    rw [ev]
    clear ev hs
    go_enter Try.func18, Try.ntmps18
    go_wp2_with (first | ((with_reducible refine gate_dst (N := 3) rfl ?_); refine bx 3 #[.int .i64 t] 3 ?_; intro B hg w1 hbox hb; have BK := ak hbox; have GE1 := gs hg bl; replace HB := ak (below_step bl hb); clear hb hbox hg) | ((with_reducible refine gate_dst (N := 10) rfl ?_); refine gl (some 10) Try.func49 #[.slice A0 l.length c0] ?_; (refine (impl_StoreOk.calls _ _ _ l _ _ ?sa HC0.out K1.out).mono ?_); (case sa => exact cb HR0); rintro e w2 ⟨rfl, hb⟩; refine ⟨_, rfl, ?_⟩; replace HB := ak (below_step bl hb); clear hb) | ((with_reducible refine gate_dst (N := 13) rfl ?_); refine gl (some 13) Try.func65 #[.slice A0 l.length c0] ?_; (refine (impl_ownSeries.calls _ _ _ l _ _ ?sb HC0.out K2.out).mono ?_); (case sb => exact cb HR0); rintro e w3 ⟨v3, rfl, ho, hb⟩; refine ⟨_, rfl, ?_⟩; have HO := ak (Kd.S_lower ho (below_size bl)); replace HB := ak (below_step bl hb); clear hb ho))
    go_ret2
    exact ⟨_, rfl, HO.out, HB.out⟩
  | true =>
    have ev : forgV t l = (forg t l, true) := by unfold forgV; rw [if_pos hs]
    rw [hs] at K1
    rw [ev]
    clear ev hs
    go_enter Try.func18, Try.ntmps18
    go_wp2_with (first | ((with_reducible refine gate_dst (N := 3) rfl ?_); refine bx 3 #[.int .i64 t] 3 ?_; intro B hg w1 hbox hb; have BK := ak hbox; have GB1 := gs hg bl; replace HB := ak (below_step bl hb); clear hb hbox hg) | ((with_reducible refine gate_dst (N := 10) rfl ?_); refine gl (some 10) Try.func49 #[.slice A0 l.length c0] ?_; (refine (impl_StoreOk.calls _ _ _ l _ _ ?sa HC0.out K1.out).mono ?_); (case sa => exact cb HR0); rintro e w2 ⟨rfl, hb⟩; refine ⟨_, rfl, ?_⟩; replace BK := ak (blk_below BK.out hb); replace HB := ak (below_step bl hb); clear hb) | ((with_reducible refine gate_dst (N := 15) rfl ?_); refine gl (some 15) Try.func65 #[.slice A0 l.length c0] ?_; (refine (impl_ownSeries.calls _ _ _ l _ _ ?sb HC0.out K2.out).mono ?_); (case sb => exact cb HR0); rintro e w3 ⟨v3, rfl, ho, hb⟩; refine ⟨_, rfl, ?_⟩; have HBB := ak (show B < w2.heap.size from blk_lt BK.out); have HW2 := HB; replace BK := ak (blk_below BK.out hb); replace HB := ak (below_step HB.out hb); have HB2 := ak hb; have HB23 := ak hb.size; obtain ⟨A15, c15, e15⟩ := Kd.S_slice ho; subst e15; obtain ⟨f, g, hg, hT⟩ := todo_of_S2 ho; have HG := ak hg; have HT := ak hT; clear hb ho hg hT))
    go_loopg [6, 17] l.length (fun kq v6 v17 w' => ∃ (pre suf : List S81) (x17 : Int), v17 = .int .i64 x17 ∧ Aside0 (l = pre ++ suf ∧ x17 = (pre.length : Int) ∧ suf.length ≤ kq) ∧ Aside0 (Todo f g w2.heap.size w3.heap.size l pre.length w') ∧ Aside0 (Kd.S k81 81 w' w.heap.size (OkF f g w2.heap.size w3.heap.size pre.length) v6 (forg t pre)) ∧ Aside0 (w'.heap[B]? = some (.cells #[.int .i64 t] 3 (0, 0))) ∧ Aside0 (Below w.heap.size w w') ∧ Aside0 (Below w2.heap.size w2 w') ∧ Aside0 (w3.heap.size ≤ w'.heap.size))
    case atStart => exact ⟨[], l, 0, rfl, ⟨⟨rfl, rfl, Nat.le_refl _⟩⟩, HT, ⟨Kd.S_nil _ _ _ _ _⟩, BK, HB, HB2, ⟨Nat.le_refl _⟩⟩
    case round =>
      clear HT BK HB HB2
      obtain ⟨pre, suf, x17, rfl, HA, HT, HO, BK, HB, HB2, HT1⟩ := hrel
      obtain ⟨h1, h2, h3⟩ := HA.out
      cases suf with
      | nil =>
        rw [List.append_nil] at h1
        subst h1
        have c1 : decide (x17 < (l.length : Int)) = false := decide_eq_false (by omega)
        clear h2 h3
        go_wp2
        go_ret2
        exact ⟨_, rfl, Kd.S_mono HO.out (fun _ _ => trivial), HB.out⟩
      | cons s suf =>
        have h4 : l.length = pre.length + (suf.length + 1) := by rw [h1, List.length_append, List.length_cons]
        obtain ⟨eA, hg1, hg2⟩ := HG.out (by omega)
        have hls : l[pre.length]? = some s := by rw [h1]; simp
        obtain ⟨v2, q0, q1, q2, qR⟩ := HT.out pre.length s (Nat.le_refl _) hls
        obtain ⟨A2, c2, ev⟩ := Kd.R_slice qR
        subst ev
        have htn : x17.toNat = pre.length := by omega
        have hx_0 : wr.cell? ⟨g, x17.toNat * 3, none⟩ = some (.string s.f0) := by rw [htn]; exact q0
        have hx_1 : wr.cell? ⟨g, x17.toNat * 3 + 1, none⟩ = some (.string s.f1) := by rw [htn]; exact q1
        have hx_2 : wr.cell? ⟨g, x17.toNat * 3 + 2, none⟩ = some (.slice A2 s.f2.length c2) := by rw [htn]; exact q2
        have pz : 0 ≤ x17 := by omega
        have qz : x17 < (l.length : Int) := by omega
        have c1 : decide (x17 < (l.length : Int)) = true := decide_eq_true qz
        replace pz := eq_true pz
        replace qz := eq_true qz
        obtain ⟨x18, hx18⟩ : ∃ y, y = x17 + 1 := ⟨_, rfl⟩
        have hx := HX.out
        have w78 : IntKind.i64.wrap (x17 + 1) = x18 := (i64_w _).trans (by rw [hx18]; unfold wrap64; omega)
        have HN := ak (show l = (pre ++ [s]) ++ suf ∧ x18 = ((pre ++ [s]).length : Int) ∧ suf.length < gk + 1 ∧ pre.length ≤ 1048576 ∧ (pre ++ [s]).length = pre.length + 1 from ⟨by rw [h1]; simp, by rw [List.length_append, List.length_singleton]; omega, by rw [List.length_cons] at h3; omega, by omega, by simp⟩)
        have HSL := ak (HF.out s (by rw [h1]; simp))
        have HM := ak h3
        have HLS := ak hls
        have HB3 := ak (show B < w3.heap.size from Nat.lt_of_lt_of_le HBB.out HB23.out)
        have HQ := ak qR
        have G1 := ak hg1
        have G2 := ak hg2
        have HP := ak (show ∀ k, (Value.slice A2 s.f2.length c2).ownBlock = some k → PiF f g w2.heap.size w3.heap.size pre.length k from qR.1)
        have HV6 := ak (Kd.S_R HO.out).1
        subst eA
        clear q0 q1 q2 qR htn h1 h2 h3 h4 hls hx18 hx hg1 hg2 HA
        by_cases c : 0 < (cutS t s).f2.length
        · have d2_ : decide (0 < (cutS t s).f2.length) = true := decide_eq_true c
          have d3_ : decide (0 < ((cutS t s).f2.length : Int)) = true := decide_eq_true (by omega)
          have HE := ak (show forg t (pre ++ [s]) = forg t pre ++ [cutS t s] from by rw [forg_app]; simp only [forg, if_pos c])
          clear c
          go_wp2_with (first | ((with_reducible refine gate_dst (N := 8) rfl ?_); refine bx 8 #[.string (⟨#[]⟩ : ByteArray), .string (⟨#[]⟩ : ByteArray), .slice none 0 0] 81 ?_; intro gb hg w4 hbox hb; have BKb := ak hbox; have GW := ak (show w.heap.size ≤ gb from by rw [hg]; exact HB.out.size); have GW2 := ak (show w2.heap.size ≤ gb from by rw [hg]; exact HB2.out.size); have GT := ak (show w3.heap.size ≤ gb from by rw [hg]; exact HT1.out); have GS := ak (show wr.heap.size ≤ gb from by rw [hg]; exact Nat.le_refl _); have NGg := ak (show g ≠ gb from by have := G2.out; have := GT.out; omega); have NGB := ak (show B ≠ gb from by have := HBB.out; have := GW2.out; omega); replace HT := ak (todo_move (D := fun _ => False) HT.out (Kept.of_below hb _) (fun h => h) (fun k h => h.elim) (Nat.le_refl _)); replace HO := ak (Kd.S_below (Kd.S_mono (ok' := fun k => (OkF f g w2.heap.size w3.heap.size pre.length) k ∧ k < wr.heap.size) (Kd.S_bound HO.out) (fun k hk => ⟨hk.1, hk.2.2.1⟩)) hb); replace BK := ak (blk_below BK.out hb); replace HQ := ak (Kd.R_below HQ.out hb); replace HB := ak (below_step HB.out hb); replace HB2 := ak (below_step HB2.out hb); replace HT1 := ak (Nat.le_trans HT1.out hb.size); clear hb hbox hg; obtain ⟨hcz_0, hcz_1, hcz_2, hfz_0, hfz_1, hfz_2⟩ := cz3 BKb) | ((with_reducible refine gate_dst (N := 24) rfl ?_); refine gl (some 24) Try.func73 #[Value.slice A2 s.f2.length c2, .func (.func 74) #[] #[.pointer (some ⟨B, 0, none⟩)]] ?_; (refine (deleteFuncP (pF t) #[.pointer (some ⟨B, 0, none⟩)] (s.f2.map encP) (PiF f g w2.heap.size w3.heap.size pre.length) _ w2 _ ?hB ?hR ?hL ?hG ?hP).mono ?_); (case hB => exact below_set (below_set (below_set HB2.out GW2.out) GW2.out) GW2.out); (case hR => exact pts_raw (Kd.R_far (Kd.R_far (Kd.R_far HQ.out (p := ⟨gb, 0, none⟩) (fun k hk => by show k ≠ gb; have := hk.1.2.1; have := GT.out; omega) (Value.string s.f0)) (p := ⟨gb, 1, none⟩) (fun k hk => by show k ≠ gb; have := hk.1.2.1; have := GT.out; omega) (Value.string s.f1)) (p := ⟨gb, 2, none⟩) (fun k hk => by show k ≠ gb; have := hk.1.2.1; have := GT.out; omega) (Value.slice A2 s.f2.length c2))); (case hL => rw [List.length_map]; have := HSL.out; omega); (case hG => intro c hc; obtain ⟨p, _, rfl⟩ := List.mem_map.1 hc; exact ⟨p.f0, p.f1, rfl⟩); (case hP => intro W cs hk hcs; obtain ⟨p, _, rfl⟩ := List.mem_map.1 hcs; exact forget_closure t p.f0 p.f1 B W ((blk_cell (blk_kept (blk_far (blk_far (blk_far BK.out (p := ⟨gb, 0, none⟩) NGB.out (Value.string s.f0)) (p := ⟨gb, 1, none⟩) NGB.out (Value.string s.f1)) (p := ⟨gb, 2, none⟩) NGB.out (Value.slice A2 s.f2.length c2)) hk (fun e => by have := (HP.out B e.symm).1.1; have := HBB.out; omega)) 0).trans rfl)); rintro e w5 ⟨v', rfl, hR5, hob, hb5, hk5⟩; refine ⟨_, rfl, ?_⟩; rw [filt_pF] at hR5; have HR3 := ak (show Kd.R k37 37 w5 w2.heap.size (PiF f g w2.heap.size w3.heap.size pre.length) v' (cutS t s).f2 from pts_back hR5); have hkk : Kept w4 w5 (fun k => k = gb ∨ some k = (Value.slice A2 s.f2.length c2).ownBlock) := Kept.then_ (Kept.setCell (S := (fun k => k = gb ∨ some k = (Value.slice A2 s.f2.length c2).ownBlock)) (Kept.setCell (S := (fun k => k = gb ∨ some k = (Value.slice A2 s.f2.length c2).ownBlock)) (Kept.setCell (S := (fun k => k = gb ∨ some k = (Value.slice A2 s.f2.length c2).ownBlock)) (Kept.refl w4 (fun k => k = gb ∨ some k = (Value.slice A2 s.f2.length c2).ownBlock)) (p := ⟨gb, 0, none⟩) (.inl (.inl rfl)) (Value.string s.f0)) (p := ⟨gb, 1, none⟩) (.inl (.inl rfl)) (Value.string s.f1)) (p := ⟨gb, 2, none⟩) (.inl (.inl rfl)) (Value.slice A2 s.f2.length c2)) hk5 (fun k hk => .inl (.inr hk)); have hD : ∀ k, (fun k => k = gb ∨ some k = (Value.slice A2 s.f2.length c2).ownBlock) k → k = gb ∨ (PiF f g w2.heap.size w3.heap.size pre.length) k := (fun k hk => hk.imp id (fun h => HP.out k h.symm)); replace BKb := ak (blk_kept (blk_put (cs := #[Value.string s.f0, Value.string s.f1, Value.slice none 0 0]) (blk_put (cs := #[Value.string s.f0, Value.string (⟨#[]⟩ : ByteArray), Value.slice none 0 0]) (blk_put (cs := #[Value.string (⟨#[]⟩ : ByteArray), Value.string (⟨#[]⟩ : ByteArray), Value.slice none 0 0]) BKb.out 0 _ rfl) 1 _ rfl) 2 _ rfl) hk5 (fun e => by have := (HP.out gb e.symm).1.2.1; have := GT.out; omega)); replace BK := ak (blk_kept BK.out hkk (fun e => (hD B e).elim (fun h => NGB.out h) (fun h => by have := h.1.1; have := HBB.out; omega))); replace HT := ak (todo_move (i' := (pre ++ [s]).length) HT.out hkk (fun e => (hD g e).elim (fun h => NGg.out h) (fun h => h.1.2.2 rfl)) (fun k hk h1 h2 => (hD k hk).elim (fun h => by have := GT.out; omega) (fun h => by have := h.2; rw [HN.out.2.2.2.2]; omega)) (by rw [HN.out.2.2.2.2]; omega)); replace HO := ak (Kd.S_kept HO.out hkk (fun k hk hd => (hD k hd).elim (fun h => by have := hk.2; have := GS.out; omega) (fun h => hk.1.elim (fun h2 => by have := h2.2.2.2; have := h.2; omega) (fun h2 => by have := h.1.2.1; omega)))); replace HB := ak (below_step HW2.out hb5); replace HB2 := ak hb5; replace HT1 := ak (Nat.le_trans HT1.out hkk.1); clear hR5 hob hb5 hk5 hkk hD; obtain ⟨A3, c3, e3⟩ := Kd.R_slice HR3.out; subst e3; clear hcz_0 hcz_1 hcz_2 hfz_0 hfz_1 hfz_2; obtain ⟨hcz_0, hcz_1, hcz_2, hfz_0, hfz_1, hfz_2⟩ := cz3 BKb) | ((with_reducible refine gate_store (t := 31) (p := 25) rfl ?_); (refine store_event (t := 31) (p := 25) (v := ?vo_a) (w1 := (w5.setCell ⟨gb, 2, none⟩ (Value.slice A3 (cutS t s).f2.length c3))) ?hg ?ho ?hn ?hr ?_; (case ho => rfl); (case hg => rfl); (case hn => rfl); (case hr => first | (go_simp; done) | (go_simp; rfl)); intro w6 hw; replace BKb := ak (show w6.heap[gb]? = some (.cells #[Value.string s.f0, Value.string s.f1, (Value.slice A3 (cutS t s).f2.length c3)] 81 (0, 0)) from by rw [hw]; exact blk_put BKb.out 2 _ rfl); replace HT := ak (by rw [hw]; exact (todo_move (D := fun k => k = gb) HT.out (Kept.setCell (Kept.refl w5 (fun k => k = gb)) (p := ⟨gb, 2, none⟩) (.inl rfl) (Value.slice A3 (cutS t s).f2.length c3)) (fun h => NGg.out h) (fun k hk h1 h2 => by have := GT.out; omega) (Nat.le_refl _)) : Todo f g w2.heap.size w3.heap.size l (pre ++ [s]).length w6); replace HO := ak (show Kd.S k81 81 w6 w.heap.size _ u6 (forg t pre) from by rw [hw]; exact (Kd.S_far HO.out (p := ⟨gb, 2, none⟩) (fun k hk => by show k ≠ gb; have := hk.2; have := GS.out; omega) (Value.slice A3 (cutS t s).f2.length c3))); replace BK := ak (show w6.heap[B]? = some (.cells #[.int .i64 t] 3 (0, 0)) from by rw [hw]; exact (blk_far BK.out (p := ⟨gb, 2, none⟩) NGB.out (Value.slice A3 (cutS t s).f2.length c3))); replace HR3 := ak (show Kd.R k37 37 w6 w2.heap.size _ _ _ from by rw [hw]; exact (Kd.R_far HR3.out (p := ⟨gb, 2, none⟩) (fun k hk => by show k ≠ gb; have := hk.1.2.1; have := GT.out; omega) (Value.slice A3 (cutS t s).f2.length c3))); replace HB := ak (show Below w.heap.size w w6 from by rw [hw]; exact below_set HB.out GW.out); replace HB2 := ak (show Below w2.heap.size w2 w6 from by rw [hw]; exact below_set HB2.out GW2.out); replace HT1 := ak (show w3.heap.size ≤ w6.heap.size from by rw [hw]; exact (by have h_ := HT1.out; simpa [World.setCell] using h_)); clear hw hcz_0 hcz_1 hcz_2 hfz_0 hfz_1 hfz_2; obtain ⟨hcz_0, hcz_1, hcz_2, hfz_0, hfz_1, hfz_2⟩ := cz3 BKb)) | ((with_reducible refine gate_builtin (b := .append) (xs := #[.tmp 30, .tmp 32]) rfl ?_); at_builtin; refine Kd.S_append k81 (w0 := w) w.heap.size rfl (.tmp 30) (.tmp 32) 24 81 (.agg #[(.string ⟨#[]⟩), (.string ⟨#[]⟩), (.slice none 0 0)]) 56 rfl Try.underlying24 info81 rfl (by decide) (by omega) _ (forg t pre) (cutS t s) [.string s.f0, .string s.f1, .slice A3 (cutS t s).f2.length c3] (OkF f g w2.heap.size w3.heap.size (pre ++ [s]).length) (PiF f g w2.heap.size w3.heap.size pre.length) rfl rfl ?aP ?aK ?aF ?aO ?aB ?aS ?aL ?_; (case aP => exact k81_mkM _ _ _ (cutS t s) (Kd.R_lower HR3.out HW2.out.size)); (case aK => exact fun k hk => ⟨.inl ⟨hk.1.1, hk.1.2.1, hk.1.2.2, by have := hk.2; rw [HN.out.2.2.2.2]; omega⟩, fun e => (HV6.out k e.symm).elim (fun h => by have := h.2.2.2; have := hk.2; omega) (fun h => by have := hk.1.2.1; omega)⟩); (case aF => exact fun k hk => .inr (Nat.le_trans HT1.out hk)); (case aO => exact Kd.S_mono HO.out (fun k hk => ⟨hk.1.imp (fun h => ⟨h.1, h.2.1, h.2.2.1, by have := h.2.2.2; rw [HN.out.2.2.2.2]; omega⟩) id, fun h => hk.1.elim (fun h2 => by have := h2.2.2.2; have := h.2; omega) (fun h2 => by have := h.1.2.1; omega)⟩)); (case aB => exact HB.out); (case aS => exact HB.out.size); (case aL => have := HN.out.2.2.2.1; have := forg_len t pre; omega); intro v7 w7 ho hb hg hat; have hk7 := Kept.of_grown (S := fun k => some k = Value.ownBlock u6) hg (Kept.refl _ _) (fun k e => .inl e.symm); replace HT := ak (todo_move HT.out hk7 (fun e => (HV6.out g e.symm).elim (fun h => h.2.2.1 rfl) (fun h => by have := G2.out; omega)) (fun k hk h1 h2 => (HV6.out k hk.symm).elim (fun h => by have := h.2.2.2; rw [HN.out.2.2.2.2]; omega) (fun h => by omega)) (Nat.le_refl _)); replace BK := ak (blk_kept BK.out hk7 (fun e => (HV6.out B e.symm).elim (fun h => by have := h.1; have := HBB.out; omega) (fun h => by have := HB3.out; omega))); replace HO := ak ho; replace HB := ak hb; replace HB2 := ak (Below.grown HB2.out hg HB2.out.size (fun k e => (HV6.out k e).elim (fun h => h.1) (fun h => Nat.le_trans HB23.out h))); replace HT1 := ak (Nat.le_trans HT1.out hk7.1); clear ho hb hg hat hk7))
          go_roundg suf.length
          case measure => have := HM.out; simp only [List.length_cons] at this; omega
          case rel => exact ⟨pre ++ [s], suf, x18, rfl, ⟨⟨HN.out.1, HN.out.2.1, Nat.le_refl _⟩⟩, HT, ⟨by rw [HE.out]; exact HO.out⟩, BK, HB, HB2, HT1⟩
        · have d2_ : decide (0 < (cutS t s).f2.length) = false := decide_eq_false c
          have d3_ : decide (0 < ((cutS t s).f2.length : Int)) = false := decide_eq_false (by omega)
          have HE := ak (show forg t (pre ++ [s]) = forg t pre from by rw [forg_app]; simp only [forg, if_neg c, List.append_nil])
          clear c
          go_wp2_with (first | ((with_reducible refine gate_dst (N := 8) rfl ?_); refine bx 8 #[.string (⟨#[]⟩ : ByteArray), .string (⟨#[]⟩ : ByteArray), .slice none 0 0] 81 ?_; intro gb hg w4 hbox hb; have BKb := ak hbox; have GW := ak (show w.heap.size ≤ gb from by rw [hg]; exact HB.out.size); have GW2 := ak (show w2.heap.size ≤ gb from by rw [hg]; exact HB2.out.size); have GT := ak (show w3.heap.size ≤ gb from by rw [hg]; exact HT1.out); have GS := ak (show wr.heap.size ≤ gb from by rw [hg]; exact Nat.le_refl _); have NGg := ak (show g ≠ gb from by have := G2.out; have := GT.out; omega); have NGB := ak (show B ≠ gb from by have := HBB.out; have := GW2.out; omega); replace HT := ak (todo_move (D := fun _ => False) HT.out (Kept.of_below hb _) (fun h => h) (fun k h => h.elim) (Nat.le_refl _)); replace HO := ak (Kd.S_below (Kd.S_mono (ok' := fun k => (OkF f g w2.heap.size w3.heap.size pre.length) k ∧ k < wr.heap.size) (Kd.S_bound HO.out) (fun k hk => ⟨hk.1, hk.2.2.1⟩)) hb); replace BK := ak (blk_below BK.out hb); replace HQ := ak (Kd.R_below HQ.out hb); replace HB := ak (below_step HB.out hb); replace HB2 := ak (below_step HB2.out hb); replace HT1 := ak (Nat.le_trans HT1.out hb.size); clear hb hbox hg; obtain ⟨hcz_0, hcz_1, hcz_2, hfz_0, hfz_1, hfz_2⟩ := cz3 BKb) | ((with_reducible refine gate_dst (N := 24) rfl ?_); refine gl (some 24) Try.func73 #[Value.slice A2 s.f2.length c2, .func (.func 74) #[] #[.pointer (some ⟨B, 0, none⟩)]] ?_; (refine (deleteFuncP (pF t) #[.pointer (some ⟨B, 0, none⟩)] (s.f2.map encP) (PiF f g w2.heap.size w3.heap.size pre.length) _ w2 _ ?hB ?hR ?hL ?hG ?hP).mono ?_); (case hB => exact below_set (below_set (below_set HB2.out GW2.out) GW2.out) GW2.out); (case hR => exact pts_raw (Kd.R_far (Kd.R_far (Kd.R_far HQ.out (p := ⟨gb, 0, none⟩) (fun k hk => by show k ≠ gb; have := hk.1.2.1; have := GT.out; omega) (Value.string s.f0)) (p := ⟨gb, 1, none⟩) (fun k hk => by show k ≠ gb; have := hk.1.2.1; have := GT.out; omega) (Value.string s.f1)) (p := ⟨gb, 2, none⟩) (fun k hk => by show k ≠ gb; have := hk.1.2.1; have := GT.out; omega) (Value.slice A2 s.f2.length c2))); (case hL => rw [List.length_map]; have := HSL.out; omega); (case hG => intro c hc; obtain ⟨p, _, rfl⟩ := List.mem_map.1 hc; exact ⟨p.f0, p.f1, rfl⟩); (case hP => intro W cs hk hcs; obtain ⟨p, _, rfl⟩ := List.mem_map.1 hcs; exact forget_closure t p.f0 p.f1 B W ((blk_cell (blk_kept (blk_far (blk_far (blk_far BK.out (p := ⟨gb, 0, none⟩) NGB.out (Value.string s.f0)) (p := ⟨gb, 1, none⟩) NGB.out (Value.string s.f1)) (p := ⟨gb, 2, none⟩) NGB.out (Value.slice A2 s.f2.length c2)) hk (fun e => by have := (HP.out B e.symm).1.1; have := HBB.out; omega)) 0).trans rfl)); rintro e w5 ⟨v', rfl, hR5, hob, hb5, hk5⟩; refine ⟨_, rfl, ?_⟩; rw [filt_pF] at hR5; have HR3 := ak (show Kd.R k37 37 w5 w2.heap.size (PiF f g w2.heap.size w3.heap.size pre.length) v' (cutS t s).f2 from pts_back hR5); have hkk : Kept w4 w5 (fun k => k = gb ∨ some k = (Value.slice A2 s.f2.length c2).ownBlock) := Kept.then_ (Kept.setCell (S := (fun k => k = gb ∨ some k = (Value.slice A2 s.f2.length c2).ownBlock)) (Kept.setCell (S := (fun k => k = gb ∨ some k = (Value.slice A2 s.f2.length c2).ownBlock)) (Kept.setCell (S := (fun k => k = gb ∨ some k = (Value.slice A2 s.f2.length c2).ownBlock)) (Kept.refl w4 (fun k => k = gb ∨ some k = (Value.slice A2 s.f2.length c2).ownBlock)) (p := ⟨gb, 0, none⟩) (.inl (.inl rfl)) (Value.string s.f0)) (p := ⟨gb, 1, none⟩) (.inl (.inl rfl)) (Value.string s.f1)) (p := ⟨gb, 2, none⟩) (.inl (.inl rfl)) (Value.slice A2 s.f2.length c2)) hk5 (fun k hk => .inl (.inr hk)); have hD : ∀ k, (fun k => k = gb ∨ some k = (Value.slice A2 s.f2.length c2).ownBlock) k → k = gb ∨ (PiF f g w2.heap.size w3.heap.size pre.length) k := (fun k hk => hk.imp id (fun h => HP.out k h.symm)); replace BKb := ak (blk_kept (blk_put (cs := #[Value.string s.f0, Value.string s.f1, Value.slice none 0 0]) (blk_put (cs := #[Value.string s.f0, Value.string (⟨#[]⟩ : ByteArray), Value.slice none 0 0]) (blk_put (cs := #[Value.string (⟨#[]⟩ : ByteArray), Value.string (⟨#[]⟩ : ByteArray), Value.slice none 0 0]) BKb.out 0 _ rfl) 1 _ rfl) 2 _ rfl) hk5 (fun e => by have := (HP.out gb e.symm).1.2.1; have := GT.out; omega)); replace BK := ak (blk_kept BK.out hkk (fun e => (hD B e).elim (fun h => NGB.out h) (fun h => by have := h.1.1; have := HBB.out; omega))); replace HT := ak (todo_move (i' := (pre ++ [s]).length) HT.out hkk (fun e => (hD g e).elim (fun h => NGg.out h) (fun h => h.1.2.2 rfl)) (fun k hk h1 h2 => (hD k hk).elim (fun h => by have := GT.out; omega) (fun h => by have := h.2; rw [HN.out.2.2.2.2]; omega)) (by rw [HN.out.2.2.2.2]; omega)); replace HO := ak (Kd.S_kept HO.out hkk (fun k hk hd => (hD k hd).elim (fun h => by have := hk.2; have := GS.out; omega) (fun h => hk.1.elim (fun h2 => by have := h2.2.2.2; have := h.2; omega) (fun h2 => by have := h.1.2.1; omega)))); replace HB := ak (below_step HW2.out hb5); replace HB2 := ak hb5; replace HT1 := ak (Nat.le_trans HT1.out hkk.1); clear hR5 hob hb5 hk5 hkk hD; obtain ⟨A3, c3, e3⟩ := Kd.R_slice HR3.out; subst e3; clear hcz_0 hcz_1 hcz_2 hfz_0 hfz_1 hfz_2; obtain ⟨hcz_0, hcz_1, hcz_2, hfz_0, hfz_1, hfz_2⟩ := cz3 BKb) | ((with_reducible refine gate_store (t := 31) (p := 25) rfl ?_); (refine store_event (t := 31) (p := 25) (v := ?vo_b) (w1 := (w5.setCell ⟨gb, 2, none⟩ (Value.slice A3 (cutS t s).f2.length c3))) ?hg ?ho ?hn ?hr ?_; (case ho => rfl); (case hg => rfl); (case hn => rfl); (case hr => first | (go_simp; done) | (go_simp; rfl)); intro w6 hw; replace BKb := ak (show w6.heap[gb]? = some (.cells #[Value.string s.f0, Value.string s.f1, (Value.slice A3 (cutS t s).f2.length c3)] 81 (0, 0)) from by rw [hw]; exact blk_put BKb.out 2 _ rfl); replace HT := ak (by rw [hw]; exact (todo_move (D := fun k => k = gb) HT.out (Kept.setCell (Kept.refl w5 (fun k => k = gb)) (p := ⟨gb, 2, none⟩) (.inl rfl) (Value.slice A3 (cutS t s).f2.length c3)) (fun h => NGg.out h) (fun k hk h1 h2 => by have := GT.out; omega) (Nat.le_refl _)) : Todo f g w2.heap.size w3.heap.size l (pre ++ [s]).length w6); replace HO := ak (show Kd.S k81 81 w6 w.heap.size _ u6 (forg t pre) from by rw [hw]; exact (Kd.S_far HO.out (p := ⟨gb, 2, none⟩) (fun k hk => by show k ≠ gb; have := hk.2; have := GS.out; omega) (Value.slice A3 (cutS t s).f2.length c3))); replace BK := ak (show w6.heap[B]? = some (.cells #[.int .i64 t] 3 (0, 0)) from by rw [hw]; exact (blk_far BK.out (p := ⟨gb, 2, none⟩) NGB.out (Value.slice A3 (cutS t s).f2.length c3))); replace HR3 := ak (show Kd.R k37 37 w6 w2.heap.size _ _ _ from by rw [hw]; exact (Kd.R_far HR3.out (p := ⟨gb, 2, none⟩) (fun k hk => by show k ≠ gb; have := hk.1.2.1; have := GT.out; omega) (Value.slice A3 (cutS t s).f2.length c3))); replace HB := ak (show Below w.heap.size w w6 from by rw [hw]; exact below_set HB.out GW.out); replace HB2 := ak (show Below w2.heap.size w2 w6 from by rw [hw]; exact below_set HB2.out GW2.out); replace HT1 := ak (show w3.heap.size ≤ w6.heap.size from by rw [hw]; exact (by have h_ := HT1.out; simpa [World.setCell] using h_)); clear hw hcz_0 hcz_1 hcz_2 hfz_0 hfz_1 hfz_2; obtain ⟨hcz_0, hcz_1, hcz_2, hfz_0, hfz_1, hfz_2⟩ := cz3 BKb)))
          go_roundg suf.length
          case measure => have := HM.out; simp only [List.length_cons] at this; omega
          case rel => exact ⟨pre ++ [s], suf, x18, rfl, ⟨⟨HN.out.1, HN.out.2.1, Nat.le_refl _⟩⟩, HT, ⟨by rw [HE.out]; exact Kd.S_mono HO.out (fun k hk => hk.1.imp (fun h => ⟨h.1, h.2.1, h.2.2.1, by have := h.2.2.2; rw [HN.out.2.2.2.2]; omega⟩) id)⟩, BK, HB, HB2, HT1⟩
theorem forg_mkN (t : Int) : ∀ l : List S81, mkN (forg t l) ≤ mkN l
  | [] => Int.le_refl _
  | x :: r => by
    have hr := forg_mkN t r
    have hx : ((cutS t x).f2.length : Int) ≤ x.f2.length := Int.ofNat_le.2 (List.length_filter_le _ _)
    simp only [forg]
    split <;> simp only [mkN] <;> omega
theorem forgV_mkN (t : Int) (l : List S81) : mkN (forgV t l).1 ≤ mkN l := by
  unfold forgV
  split
  · exact forg_mkN t l
  · exact Int.le_refl _
end Go.Proofs.Ytplekidnlofioaa.Q
namespace Go.Proofs.Ytplekidnlofioaa.Q
open Go.RowKit Go.Proofs.YtplekidnlofioaaW.PrintWords Go.Proofs.YtplekidnlofioaaW.PrintLast Go.Proofs.YtplekidnlofioaaW.PrintMore
attribute [local go_sem] max2_int min2_int max_two min_two max_three min_three max_four min_four
set_option linter.unusedVariables false
set_option linter.unusedSimpArgs false
/-- The cells of an element, and what its points' row is. -/
def CellS (W : World) (b : Nat) (ok : Nat → Prop) (s : S81) (c : List Value) : Prop := ∃ A m n, c = [Value.string s.f0, Value.string s.f1, Value.slice A m n] ∧ Kd.R k37 37 W b ok (Value.slice A m n) s.f2
/-- A row of rows as cells, each element with its owner. -/
theorem S_split {b : Nat} {W : World} {v : Value} {l : List S81} (h : Kd.S k81 81 W b (fun _ => True) v l) : ∃ (f : Nat → Nat) (Z : List (S81 × List Value × Nat)), Z.map (·.1) = l ∧ (Z.map (·.2.2)).Nodup ∧ (Kd.raw 3).R 81 W b (fun k => some k = v.ownBlock) v (Z.map (·.2.1)) ∧
    ∀ z ∈ Z, CellS W b (fun k => some k ≠ v.ownBlock ∧ f k = z.2.2) z.1 z.2.1 := by
  obtain ⟨f, h0, inner, ho, hr⟩ := h
  rw [List.length_zipIdx] at ho
  have hlen : inner.length = l.length * 3 := by have := hr.1; rw [List.length_zipIdx] at this; exact this
  have e1 : (l.zipIdx.map fun p => (p.1, (inner.drop (p.2 * 3)).take 3, p.2)).map (·.1) = l := by rw [List.map_map]; exact List.zipIdx_map_fst 0 l
  have e2 : (l.zipIdx.map fun p => (p.1, (inner.drop (p.2 * 3)).take 3, p.2)).map (·.2.2) = List.range l.length := by
    rw [List.map_map]
    show l.zipIdx.map Prod.snd = _
    rw [List.zipIdx_map_snd, List.range_eq_range']
  have hM : ∀ j s, l[j]? = some s → k81.M W b (fun k => (True ∧ some k ≠ v.ownBlock) ∧ f k = j) s ((inner.drop (j * 3)).take 3) := fun j s hs => hr.2 j (s, j) (Kd.zip_at hs)
  refine ⟨f, l.zipIdx.map fun p => (p.1, (inner.drop (p.2 * 3)).take 3, p.2), e1, by rw [e2]; exact List.nodup_range, ⟨fun k hk => hk.symm, inner, by rw [List.length_map, List.length_map, List.length_zipIdx]; exact ho, by rw [List.length_map, List.length_map, List.length_zipIdx]; exact hlen, fun j c hj => ?_⟩, fun z hz => ?_⟩
  · rw [List.map_map, List.getElem?_map] at hj
    obtain ⟨p, hp, rfl⟩ := Option.map_eq_some_iff.1 hj
    rw [List.getElem?_zipIdx, Nat.zero_add] at hp
    obtain ⟨s, hs, rfl⟩ := Option.map_eq_some_iff.1 hp
    obtain ⟨v2, hc, hR⟩ := k81_openM (hM j s hs)
    obtain ⟨A, n, rfl⟩ := Kd.R_slice hR
    show (inner.drop (j * 3)).take 3 = (inner.drop (j * 3)).take 3 ∧ ((inner.drop (j * 3)).take 3).length = 3 ∧ ∀ u ∈ (inner.drop (j * 3)).take 3, u.oneCell' = true
    rw [hc]
    refine ⟨rfl, rfl, fun u hu => ?_⟩
    simp only [List.mem_cons, List.not_mem_nil, or_false] at hu
    rcases hu with rfl | rfl | rfl <;> rfl
  · obtain ⟨p, hp, rfl⟩ := List.mem_map.1 hz
    obtain ⟨s, j⟩ := p
    have hs : l[j]? = some s := by
      exact List.mem_zipIdx_iff_getElem?.1 hp
    obtain ⟨v2, hc, hR⟩ := k81_openM (hM j s hs)
    obtain ⟨A, n, rfl⟩ := Kd.R_slice hR
    exact ⟨A, _, n, hc, Kd.R_mono hR (fun k hk => ⟨hk.1.2, hk.2⟩)⟩
/-- Back again, for any of the elements. -/
theorem S_join {b : Nat} {W : World} {v : Value} {ok : Nat → Prop} (f : Nat → Nat) (Z : List (S81 × List Value × Nat)) (hn : (Z.map (·.2.2)).Nodup) (hR : (Kd.raw 3).R 81 W b ok v (Z.map (·.2.1)))
    (hC : ∀ z ∈ Z, CellS W b (fun k => (ok k ∧ some k ≠ v.ownBlock) ∧ f k = z.2.2) z.1 z.2.1) : Kd.S k81 81 W b ok v (Z.map (·.1)) := by
  obtain ⟨h0, inner, ho, hr⟩ := hR
  rw [List.length_map] at ho
  refine ⟨fun k => (Z.map (·.2.2)).idxOf (f k), h0, inner, by rw [List.length_zipIdx, List.length_map]; exact ho, by have := hr.1; rw [List.length_map] at this; rw [List.length_zipIdx, List.length_map]; exact this, fun j p hj => ?_⟩
  rw [List.getElem?_zipIdx, Nat.zero_add, List.getElem?_map] at hj
  obtain ⟨s, hs, rfl⟩ := Option.map_eq_some_iff.1 hj
  obtain ⟨z, hz, rfl⟩ := Option.map_eq_some_iff.1 hs
  have hc := (hr.2 j z.2.1 (by rw [List.getElem?_map, hz]; rfl)).1
  obtain ⟨A, m, n, e, hP⟩ := hC z (List.mem_of_getElem? hz)
  have hlt : j < (Z.map (·.2.2)).length := by rw [List.length_map]; exact (List.getElem?_eq_some_iff.1 hz).1
  have hj2 : (Z.map (·.2.2))[j] = z.2.2 := by rw [List.getElem_map]; congr 2; exact (List.getElem?_eq_some_iff.1 hz).2
  have hidx : (Z.map (·.2.2)).idxOf z.2.2 = j := by rw [← hj2]; exact hn.idxOf_getElem j hlt
  show k81.M W b (fun k => (ok k ∧ some k ≠ v.ownBlock) ∧ (Z.map (·.2.2)).idxOf (f k) = j) z.1 ((inner.drop (j * 3)).take 3)
  rw [show (inner.drop (j * 3)).take 3 = z.2.1 from hc, e]
  exact k81_mkM _ _ _ z.1 (Kd.R_mono hP (fun k hk => ⟨hk.1, by rw [hk.2]; exact hidx⟩))
/-- The closure's test, by cells. -/
def pK (pods : List ByteArray) : List Value → Bool
  | Value.string a :: _ => !inP pods a
  | _ => false
set_option maxHeartbeats 4000000 in
theorem keep_closure (pods : List ByteArray) (hp : pods.length ≤ 1048576) (a b : ByteArray) (A : Option Addr) (m n : Nat) (B : Nat) (Ap : Option Addr) (np : Nat) (W : World) (hc : W.cell? ⟨B, 0, none⟩ = some (.slice Ap pods.length np)) (hr : Kd.C Kd.string W Ap pods.length pods) (hn : pods.length ≤ np) :
    Calls Try.prog 76 (#[.agg ([Value.string a, Value.string b, Value.slice A m n] : List Value).toArray] ++ #[.pointer (some ⟨B, 0, none⟩)]) W fun e W' => e = .returned (.bool (!inP pods a)) ∧ Below W.heap.size W W' := by
  have hB : B < W.heap.size := World.block_lt_of_cell? W _ hc
  obtain ⟨k, hk⟩ := rounds_of (contains_ev pods a hp)
  have HK_ := ak hk
  have HR := ak hr
  have HN := ak hn
  have HC_ := ak hc
  have HB := ak (Below.refl W.heap.size W)
  show Calls Try.prog 76 #[.agg #[.string a, .string b, .slice A m n], .pointer (some ⟨B, 0, none⟩)] W _
  clear hk hr hn hc
  go_enter Try.func76, Try.ntmps76
  go_wp2_with (first | ((with_reducible refine gate_dst (N := 2) rfl ?_); refine bx 2 #[.string a, .string b, .slice A m n] 81 ?_; intro gb hg w1 hbox hb; have BK := ak hbox; have hcB := (hb.cell (p := ⟨B, 0, none⟩) hB).trans HC_.out; replace HB := ak hb; replace HR := ak (Kd.C_below HR.out hb); clear hb hbox hg; obtain ⟨hcz_0, hcz_1, hcz_2, hfz_0, hfz_1, hfz_2⟩ := cz3 BK) | ((with_reducible refine gate_dst (N := 7) rfl ?_); refine gl (some 7) Try.func77 #[.slice Ap pods.length np, .string a] ?_; (refine (slices_Contains_string_string.calls k _ _ pods a _ _ ?sa HN.out HK_.out).mono ?_); (case sa => exact HR.out); rintro e w2 ⟨rfl, ⟨nd, rfl⟩⟩; refine ⟨_, rfl, ?_⟩))
  go_ret
  exact ⟨rfl, pw_below_drewN HB.out _⟩
theorem pK_keep (pods : List ByteArray) (Z : List (S81 × List Value × Nat)) (hZ : ∀ z ∈ Z, ∃ A m n, z.2.1 = [Value.string z.1.f0, Value.string z.1.f1, Value.slice A m n]) :
    ((Z.map (·.2.1)).filter fun c => !pK pods c) = (Z.filter fun z => inP pods z.1.f0).map (·.2.1) ∧ (Z.filter fun z => inP pods z.1.f0).map (·.1) = (Z.map (·.1)).filter fun s => inP pods s.f0 := by
  refine ⟨?_, by rw [List.filter_map]; rfl⟩
  rw [List.filter_map]
  congr 1
  apply List.filter_congr
  intro z hz
  obtain ⟨A, m, n, e⟩ := hZ z hz
  show (!pK pods z.2.1) = _
  rw [e]
  simp [pK]
theorem keep_join {b : Nat} {W W' : World} {v v' : Value} {l : List S81} (pods : List ByteArray) (f : Nat → Nat) (Z : List (S81 × List Value × Nat)) (hn : (Z.map (·.2.2)).Nodup) (hl : Z.map (·.1) = l)
    (hC : ∀ z ∈ Z, CellS W b (fun k => some k ≠ v.ownBlock ∧ f k = z.2.2) z.1 z.2.1) (hR : (Kd.raw 3).R 81 W' b (fun _ => True) v' ((Z.map (·.2.1)).filter fun c => !pK pods c)) (ho : v'.ownBlock = v.ownBlock) (hk : Kept W W' (fun k => some k = v.ownBlock)) :
    Kd.S k81 81 W' b (fun _ => True) v' (l.filter fun s => inP pods s.f0) := by
  obtain ⟨e1, e2⟩ := pK_keep pods Z (fun z hz => by obtain ⟨A, m, n, e, _⟩ := hC z hz; exact ⟨A, m, n, e⟩)
  rw [e1] at hR
  rw [← hl, ← e2]
  refine S_join f _ (List.Nodup.sublist (List.Sublist.map _ List.filter_sublist) hn) hR (fun z hz => ?_)
  obtain ⟨A, m, n, e, hP⟩ := hC z (List.mem_filter.1 hz).1
  exact ⟨A, m, n, e, Kd.R_mono (Kd.R_kept hP hk (fun k h1 h2 => h1.1 h2)) (fun k h => ⟨⟨trivial, by rw [ho]; exact h.1⟩, h.2⟩)⟩
set_option maxHeartbeats 16000000 in
set_option maxRecDepth 100000 in
theorem impl_KeepPods_calls (A0 : Option Addr) (c0 : Nat) (l : List S81) (Ap : Option Addr) (np : Nat) (pods : List ByteArray) (w : World) (hr0 : Kd.C k81 w A0 l.length l) (hc0 : l.length ≤ c0) (hrp : Kd.C Kd.string w Ap pods.length pods) (hcp : pods.length ≤ np) (hxp : pods.length ≤ 1048576)
    (hx : l.length ≤ 1048576) (hf : ∀ s ∈ l, s.f2.length ≤ 1048576) (hfit : ∀ s ∈ l, fitS s) :
    Calls Try.prog 19 #[.slice A0 l.length c0, .slice Ap pods.length np] w fun e w' => ∃ v : Value, e = .returned (.tuple #[v, .bool (keepV pods l).2]) ∧ Kd.S k81 81 w' w.heap.size (fun _ => True) v (keepV pods l).1 ∧ Below w.heap.size w w' := by
  obtain ⟨k1, hk1⟩ := rounds_of (impl_StoreOk_ev l (by omega) hfit)
  obtain ⟨k2, hk2⟩ := rounds_of (impl_ownSeries_ev l hx hf)
  have K1 := ak hk1
  have K2 := ak hk2
  have HR0 := ak hr0
  have HC0 := ak hc0
  have HRP := ak hrp
  have HCP := ak hcp
  have HB := ak (Below.refl w.heap.size w)
  have HX := ak hx
  have HXp := ak hxp
  clear hk1 hk2 hr0 hc0 hrp hcp hf hfit
  have hmf : ∀ (fn : Fn) (first cap : Array Value) (w : World), (Instr.makeFunc fn first cap).run Try.prog w = .ok (.func fn first cap) w := fun _ _ _ _ => rfl
  cases hs : storeOk l with
  | false =>
    have ev : keepV pods l = (l, false) := by unfold keepV; rw [if_neg (by rw [hs]; exact fun h => Bool.false_ne_true h.1)]
    rw [hs] at K1
    rw [ev]
    clear ev hs hx hxp
    go_enter Try.func19, Try.ntmps19
    go_wp2_with (first | ((with_reducible refine gate_dst (N := 3) rfl ?_); refine bx 3 #[.slice Ap pods.length np] 49 ?_; intro B hg w1 hbox hb; have BK := ak hbox; have GB1 := gs hg bl; replace HB := ak (below_step HB.out hb); clear hb hbox hg) | ((with_reducible refine gate_dst (N := 7) rfl ?_); refine gl (some 7) Try.func49 #[.slice A0 l.length c0] ?_; (refine (impl_StoreOk.calls _ _ _ l _ _ ?sa HC0.out K1.out).mono ?_); (case sa => exact cb HR0); rintro e w2 ⟨rfl, hb⟩; refine ⟨_, rfl, ?_⟩; replace BK := ak (blk_below BK.out hb); replace HB := ak (below_step HB.out hb); clear hb; obtain ⟨hcz_0, hfz_0⟩ := cz1 BK) | ((with_reducible refine gate_dst (N := 15) rfl ?_); refine gl (some 15) Try.func65 #[.slice A0 l.length c0] ?_; (refine (impl_ownSeries.calls _ _ _ l _ _ ?sb HC0.out K2.out).mono ?_); (case sb => exact cb HR0); rintro e w3 ⟨v3, rfl, ho, hb⟩; refine ⟨_, rfl, ?_⟩; have HO := ak (Kd.S_lower ho (below_size HB.out)); replace HB := ak (below_step HB.out hb); clear hb ho))
    go_ret2
    exact ⟨_, rfl, HO.out, HB.out⟩
  | true =>
    by_cases c : pods.length ≤ 300
    · have ev : keepV pods l = (l.filter (fun s => inP pods s.f0), true) := by unfold keepV; rw [if_pos ⟨hs, c⟩]
      rw [hs] at K1
      rw [ev]
      have d2_ : decide (300 < pods.length) = false := decide_eq_false (by omega)
      have d3_ : decide (300 < (pods.length : Int)) = false := decide_eq_false (by omega)
      clear ev hs hx hxp c
      go_enter Try.func19, Try.ntmps19
      go_wp2_with (first | ((with_reducible refine gate_dst (N := 3) rfl ?_); refine bx 3 #[.slice Ap pods.length np] 49 ?_; intro B hg w1 hbox hb; have BK := ak hbox; have GB1 := gs hg bl; replace HB := ak (below_step HB.out hb); clear hb hbox hg) | ((with_reducible refine gate_dst (N := 7) rfl ?_); refine gl (some 7) Try.func49 #[.slice A0 l.length c0] ?_; (refine (impl_StoreOk.calls _ _ _ l _ _ ?sa HC0.out K1.out).mono ?_); (case sa => exact cb HR0); rintro e w2 ⟨rfl, hb⟩; refine ⟨_, rfl, ?_⟩; replace BK := ak (blk_below BK.out hb); replace HB := ak (below_step HB.out hb); clear hb; obtain ⟨hcz_0, hfz_0⟩ := cz1 BK) | ((with_reducible refine gate_dst (N := 17) rfl ?_); refine gl (some 17) Try.func65 #[.slice A0 l.length c0] ?_; (refine (impl_ownSeries.calls _ _ _ l _ _ ?sb HC0.out K2.out).mono ?_); (case sb => exact cb HR0); rintro e w3 ⟨v3, rfl, ho, hb⟩; refine ⟨_, rfl, ?_⟩; have HBB := ak (show B < w2.heap.size from blk_lt BK.out); have HW2 := HB; replace BK := ak (blk_below BK.out hb); replace HB := ak (below_step HB.out hb); have HB2 := ak hb; obtain ⟨f, Z, hZ1, hZn, hZR, hZC⟩ := S_split ho; have Z1 := ak hZ1; have Zn := ak hZn; have ZR := ak hZR; have ZC := ak hZC; have HV := ak (Kd.S_R ho).1; have HVb := ak (Kd.R_base (Kd.S_R ho)); clear hb ho hZ1 hZn hZR hZC hcz_0 hfz_0; obtain ⟨hcz_0, hfz_0⟩ := cz1 BK) | ((with_reducible refine gate_dst (N := 19) rfl ?_); refine gl (some 19) Try.func75 #[v3, .func (.func 76) #[] #[.pointer (some ⟨B, 0, none⟩)]] ?_; (refine (deleteFuncS (pK pods) #[.pointer (some ⟨B, 0, none⟩)] (Z.map (·.2.1)) (fun _ => True) v3 w2 _ HB2.out ?hR ?hL ?hG ?hP).mono ?_); (case hR => exact Kd.R_mono ZR.out (fun _ _ => trivial)); (case hL => rw [List.length_map]; have h_ := congrArg List.length Z1.out; rw [List.length_map] at h_; have := HX.out; omega); (case hG => intro c hc; obtain ⟨z, hz, rfl⟩ := List.mem_map.1 hc; obtain ⟨A, m, n, e, _⟩ := ZC.out z hz; exact ⟨_, _, A, m, n, e⟩); (case hP => intro W cs hk hcs; obtain ⟨z, hz, rfl⟩ := List.mem_map.1 hcs; obtain ⟨A, m, n, e, _⟩ := ZC.out z hz; rw [e]; exact keep_closure pods HXp.out z.1.f0 z.1.f1 A m n B Ap np W ((blk_cell (blk_kept BK.out hk (fun e => by have := HVb.out B e.symm; have := HBB.out; omega)) 0).trans rfl) (Kd.C_kept_came Kd.heap_string HRP.out HB.out (fun k e => Nat.le_trans HW2.out.size (HVb.out k e.symm)) W hk) HCP.out); rintro e w4 ⟨v', rfl, hR5, hob, hb5, hk5⟩; refine ⟨_, rfl, ?_⟩; have HO := ak (keep_join (b := w2.heap.size) pods f Z Zn.out Z1.out ZC.out hR5 hob hk5); replace HB := ak (below_step HW2.out hb5); clear hR5 hob hb5 hk5))
      go_ret2
      exact ⟨_, rfl, Kd.S_lower HO.out HW2.out.size, HB.out⟩
    · have ev : keepV pods l = (l, false) := by unfold keepV; rw [if_neg (fun h => c h.2)]
      rw [hs] at K1
      rw [ev]
      have d2_ : decide (300 < pods.length) = true := decide_eq_true (by omega)
      have d3_ : decide (300 < (pods.length : Int)) = true := decide_eq_true (by omega)
      clear ev hs hx hxp c
      go_enter Try.func19, Try.ntmps19
      go_wp2_with (first | ((with_reducible refine gate_dst (N := 3) rfl ?_); refine bx 3 #[.slice Ap pods.length np] 49 ?_; intro B hg w1 hbox hb; have BK := ak hbox; have GB1 := gs hg bl; replace HB := ak (below_step HB.out hb); clear hb hbox hg) | ((with_reducible refine gate_dst (N := 7) rfl ?_); refine gl (some 7) Try.func49 #[.slice A0 l.length c0] ?_; (refine (impl_StoreOk.calls _ _ _ l _ _ ?sa HC0.out K1.out).mono ?_); (case sa => exact cb HR0); rintro e w2 ⟨rfl, hb⟩; refine ⟨_, rfl, ?_⟩; replace BK := ak (blk_below BK.out hb); replace HB := ak (below_step HB.out hb); clear hb; obtain ⟨hcz_0, hfz_0⟩ := cz1 BK) | ((with_reducible refine gate_dst (N := 15) rfl ?_); refine gl (some 15) Try.func65 #[.slice A0 l.length c0] ?_; (refine (impl_ownSeries.calls _ _ _ l _ _ ?sb HC0.out K2.out).mono ?_); (case sb => exact cb HR0); rintro e w3 ⟨v3, rfl, ho, hb⟩; refine ⟨_, rfl, ?_⟩; have HO := ak (Kd.S_lower ho (below_size HB.out)); replace HB := ak (below_step HB.out hb); clear hb ho))
      go_ret2
      exact ⟨_, rfl, HO.out, HB.out⟩
theorem mkN_filter (q : S81 → Bool) : ∀ l : List S81, mkN (l.filter q) ≤ mkN l
  | [] => Int.le_refl _
  | x :: r => by
    have hr := mkN_filter q r
    rw [List.filter_cons]
    split <;> simp only [mkN] <;> omega
theorem keepV_len (pods : List ByteArray) (l : List S81) : (keepV pods l).1.length ≤ l.length := by
  unfold keepV
  split
  · exact List.length_filter_le _ _
  · exact Nat.le_refl _
theorem keepV_pts {n : Nat} (pods : List ByteArray) (l : List S81) (h : ∀ s ∈ l, s.f2.length ≤ n) : ∀ s ∈ (keepV pods l).1, s.f2.length ≤ n := by
  unfold keepV
  split
  · exact fun s hs => h s (List.mem_filter.1 hs).1
  · exact h
theorem keepV_mkN (pods : List ByteArray) (l : List S81) : mkN (keepV pods l).1 ≤ mkN l := by
  unfold keepV
  split
  · exact mkN_filter _ l
  · exact Int.le_refl _
end Go.Proofs.Ytplekidnlofioaa.Q
namespace Go.Proofs.Ytplekidnlofioaa.Q
open Go.RowKit Go.Proofs.YtplekidnlofioaaW.PrintWords Go.Proofs.YtplekidnlofioaaW.PrintLast
set_option linter.unusedVariables false
set_option linter.unusedSimpArgs false
theorem run_copy_row_n {P : Program} {k : Nat} (w : World) (dT sT ty elem : TypeId) (g o dLen dCap : Nat) (a : Addr) (sLen sCap : Nat) (cur : Array Value) (t : TypeId) (cs : List Value) (m : Nat)
    (hu : P.underlying dT = some (.slice elem)) (hs : (P.info? elem).map (·.size) = some k)
    (hg : w.heap[g]? = some (.cells cur t (0, 0))) (hm : m = Nat.min sLen dLen) (hn : cs.length = m * k)
    (hsrc : ∀ j v, cs[j]? = some v → w.cell? (a.add j) = some v) (hfit : o + cs.length ≤ cur.size) (h1 : ∀ v ∈ cs, v.oneCell' = true) :
    (Builtin.copy_ #[dT, sT] ty #[.slice (some ⟨g, o, none⟩) dLen dCap, .slice (some a) sLen sCap]).run P w =
      .ok (goInt m) (w.setRow g (cur.toList.take o ++ cs ++ cur.toList.drop (o + cs.length)).toArray) := by
  have hl := run_loadCells_list (P := P) w a cs hsrc
  have hst := run_storeCells_at P g o t cs 0 cur w hg (by simpa using hfit) h1
  cases hq : P.info? elem with
  | none => simp [hq] at hs
  | some i =>
    have hi : i.size = k := by simpa [hq] using hs
    simp [Builtin.copy_, run_underlying hu, Builtin.lenOf, Builtin.firstCells, sizeOf, typeInfo, hq, hi, ← hm, ← hn, hl, hst]
theorem run_append_room_row {P : Program} (w : World) (t tx ty e : TypeId) (i : TypeInfo) (ht : P.underlying t = some (.slice e)) (hi : P.info? e = some i) (b sLen sCap : Nat) (x : Value) (n : Nat) (news : List Value) (hs : Src P i.size tx x n news w)
    (hroom : sLen + n ≤ sCap) (cur : Array Value) (e' : TypeId) (hg : w.heap[b]? = some (.cells cur e' (0, 0))) (hfit : sLen * i.size + news.length ≤ cur.size) :
    (Builtin.append_ #[t, tx] ty #[.slice (some ⟨b, 0, none⟩) sLen sCap, x]).run P w = .ok (.slice (some ⟨b, 0, none⟩) (sLen + n) sCap) (w.setRow b (cur.toList.take (sLen * i.size) ++ news ++ cur.toList.drop (sLen * i.size + news.length)).toArray) := by
  have hst := run_storeCells_at P b (sLen * i.size) e' news 0 cur w hg (by simpa using hfit) hs.one
  simp only [Nat.add_zero] at hst
  rcases hs.kind with ⟨e2, hk⟩ | hk <;> simp [Builtin.append_, run_underlying ht, run_underlying hk, sizeOf, typeInfo, hi, hs.len, hroom, hs.cells, Addr.add_lit, hst]
section
variable {sz e base n c g : Nat} {ok : Nat → Prop} {w : World} {A : Option Addr} {X : List (List Value)} {cur : Array Value}
theorem flat_len : ∀ {X : List (List Value)}, (∀ x ∈ X, x.length = sz) → X.flatten.length = X.length * sz
  | [], _ => by simp
  | x :: r, h => by
    rw [List.flatten_cons, List.length_append, flat_len (fun y hy => h y (List.mem_cons_of_mem _ hy)), h x List.mem_cons_self, List.length_cons, Nat.succ_mul]
    omega
theorem flat_take : ∀ {X : List (List Value)} (i : Nat), (∀ x ∈ X, x.length = sz) → X.flatten.take (i * sz) = (X.take i).flatten ∧ X.flatten.drop (i * sz) = (X.drop i).flatten
  | [], i, _ => by simp
  | x :: r, 0, _ => by simp
  | x :: r, i + 1, h => by
    have hx := h x List.mem_cons_self
    obtain ⟨h1, h2⟩ := flat_take (X := r) i (fun y hy => h y (List.mem_cons_of_mem _ hy))
    have e1 : (i + 1) * sz = x.length + i * sz := by rw [hx, Nat.succ_mul]; omega
    rw [e1, List.flatten_cons, List.take_length_add_append, List.drop_length_add_append, h1, h2]
    simp
theorem flat_seg {j : Nat} {x : List Value} (h : ∀ x ∈ X, x.length = sz) (hj : X[j]? = some x) : (X.flatten.drop (j * sz)).take sz = x := by
  obtain ⟨h1, rfl⟩ := List.getElem?_eq_some_iff.1 hj
  rw [(flat_take j h).2, List.drop_eq_getElem_cons h1, List.flatten_cons, show sz = X[j].length from (h _ (List.getElem_mem h1)).symm, List.take_left]
theorem flat_of : ∀ {X : List (List Value)} {inner : List Value}, inner.length = X.length * sz → (∀ j x, X[j]? = some x → (inner.drop (j * sz)).take sz = x) → inner = X.flatten
  | [], inner, h, _ => by simpa using h
  | x :: r, inner, h, hj => by
    have h0 := hj 0 x rfl
    rw [Nat.zero_mul, List.drop_zero] at h0
    have ih := flat_of (X := r) (inner := inner.drop sz) (by rw [List.length_drop, h, List.length_cons, Nat.succ_mul]; omega) (fun j y hy => by
      have := hj (j + 1) y hy
      rw [List.drop_drop, show sz + j * sz = (j + 1) * sz from by rw [Nat.succ_mul]; omega]
      exact this)
    rw [List.flatten_cons, ← ih, ← h0, List.take_append_drop]
theorem raw_out (h : (Kd.raw sz).R e w base ok (.slice A n c) X) : n = X.length ∧ (∀ x ∈ X, x.length = sz ∧ ∀ u ∈ x, u.oneCell' = true) ∧
    ((A = none ∧ n = 0 ∧ c = 0) ∨ ∃ g cur, A = some ⟨g, 0, none⟩ ∧ base ≤ g ∧ w.heap[g]? = some (.cells cur e (0, 0)) ∧ n ≤ c ∧ c ≤ maxLen ∧ cur.size = c * sz ∧ cur.toList.take (n * sz) = X.flatten) := by
  have hn := (Kd.R_reads' h).1
  obtain ⟨_, inner, ho, hr⟩ := h
  have hX : ∀ x ∈ X, x.length = sz ∧ ∀ u ∈ x, u.oneCell' = true := fun x hx => by
    obtain ⟨j, hj, rfl⟩ := List.getElem_of_mem hx
    obtain ⟨h1, h2, h3⟩ := hr.2 j _ (List.getElem?_eq_getElem hj)
    rw [h1] at h2 h3
    exact ⟨h2, h3⟩
  have hf : inner = X.flatten := flat_of (inner := inner) hr.1 (fun j x hj => (hr.2 j x hj).1)
  refine ⟨hn, hX, ?_⟩
  rcases ho.2 with ⟨hv, h0⟩ | ⟨g', cap', cu, hv, h0, h1, h3, h4, h5, h6⟩
  · injection hv with h1 h2 h3
    exact .inl ⟨h1, h2, h3⟩
  · injection hv with ha hm hc
    subst ha hc
    rw [← hn] at h3 h6
    exact .inr ⟨g', cu, rfl, h0, h1, h3, h4, h5, h6.trans hf⟩
theorem raw_in (h0 : ok g) (hb : base ≤ g) (hg : w.heap[g]? = some (.cells cur e (0, 0))) (hn : n = X.length) (h1 : n ≤ c) (h2 : c ≤ maxLen) (h3 : cur.size = c * sz) (h4 : cur.toList.take (n * sz) = X.flatten)
    (hX : ∀ x ∈ X, x.length = sz ∧ ∀ u ∈ x, u.oneCell' = true) : (Kd.raw sz).R e w base ok (.slice (some ⟨g, 0, none⟩) n c) X := by
  have hl := flat_len (sz := sz) (fun x hx => (hX x hx).1)
  refine ⟨fun k hk => ?_, X.flatten, ⟨hl, .inr ⟨g, c, cur, by rw [hn], hb, hg, by rw [← hn]; exact h1, h2, h3, by rw [← hn]; exact h4⟩⟩, hl, fun j x hj => ?_⟩
  · have : g = k := by simpa [Value.ownBlock] using hk
    exact this ▸ h0
  · have hx := List.mem_of_getElem? hj
    show (X.flatten.drop (j * sz)).take sz = x ∧ ((X.flatten.drop (j * sz)).take sz).length = sz ∧ ∀ u ∈ (X.flatten.drop (j * sz)).take sz, u.oneCell' = true
    rw [flat_seg (fun x hx => (hX x hx).1) hj]
    exact ⟨rfl, hX x hx⟩
end
theorem kept_setRow {w W : World} {g : Nat} {S : Nat → Prop} (h : Kept w W S) (hg : S g ∨ w.heap.size ≤ g) (cs : Array Value) : Kept w (W.setRow g cs) S :=
  ⟨Nat.le_trans h.1 (by simp [World.setRow]), fun i hi hn => (setRow_other W g i cs (fun e => by subst e; exact hg.elim hn (fun h => by omega))).trans (h.2 i hi hn)⟩
theorem ins_rows {sz : Nat} {X : List (List Value)} {c : List Value} (hX : ∀ x ∈ X, x.length = sz ∧ ∀ u ∈ x, u.oneCell' = true) (hc : c.length = sz ∧ ∀ u ∈ c, u.oneCell' = true) (i : Nat) : ∀ x ∈ X.take i ++ c :: X.drop i, x.length = sz ∧ ∀ u ∈ x, u.oneCell' = true := by
  intro x hx
  rcases List.mem_append.1 hx with hx | hx
  · exact hX x (List.mem_of_mem_take hx)
  · rcases List.mem_cons.1 hx with rfl | hx
    · exact hc
    · exact hX x (List.mem_of_mem_drop hx)
theorem ins_flat {sz : Nat} {X : List (List Value)} {c : List Value} (hX : ∀ x ∈ X, x.length = sz) (i : Nat) : (X.take i ++ c :: X.drop i).flatten = X.flatten.take (i * sz) ++ c ++ X.flatten.drop (i * sz) := by
  rw [List.flatten_append, List.flatten_cons, (flat_take i hX).1, (flat_take i hX).2, List.append_assoc]
end Go.Proofs.Ytplekidnlofioaa.Q
namespace Go.Proofs.Ytplekidnlofioaa.Q
open Go.RowKit Go.Proofs.YtplekidnlofioaaW.PrintWords Go.Proofs.YtplekidnlofioaaW.PrintLast Go.Proofs.YtplekidnlofioaaW.PrintMore
set_option linter.unusedVariables false
set_option linter.unusedSimpArgs false
abbrev zS : Value := .agg #[Value.string (⟨#[]⟩ : ByteArray), Value.string (⟨#[]⟩ : ByteArray), Value.slice none 0 0]
theorem infoS : ∃ i0 : TypeInfo, Try.prog.info? 81 = some i0 ∧ i0.zero = some zS ∧ i0.size = 3 ∧ i0.bytes = 56 := by
  have h := info81
  cases hq : Try.prog.info? 81 with
  | none => rw [hq] at h; cases h
  | some i0 =>
    rw [hq] at h
    injection h with h
    injection h with h1 h
    injection h with h2 h3
    exact ⟨i0, rfl, h1, h2, h3⟩
theorem srcS {gb : Nat} {b0 b1 b2 : Value} {w : World} (hb : w.heap[gb]? = some (.cells #[b0, b1, b2] 81 (0, 0))) (h1 : ∀ u ∈ [b0, b1, b2], u.oneCell' = true) : Src Try.prog 3 24 (.slice (some ⟨gb, 0, none⟩) 1 1) 1 [b0, b1, b2] w :=
  Src.ofSlice w Try.underlying24 ⟨gb, 0, none⟩ 1 1 [b0, b1, b2] rfl (fun j u hj => by rw [Addr.add_lit, Nat.zero_add, blk_cell hb]; simpa using hj) h1
set_option maxHeartbeats 4000000 in
set_option maxRecDepth 100000 in
theorem ins_end_room (g n c gb : Nat) (cur : Array Value) (b0 b1 b2 : Value) (w : World) (hg : w.heap[g]? = some (.cells cur 81 (0, 0))) (hb : w.heap[gb]? = some (.cells #[b0, b1, b2] 81 (0, 0))) (h1 : ∀ u ∈ [b0, b1, b2], u.oneCell' = true) (hroom : n + 1 ≤ c) (hc : c ≤ maxLen) (hs : cur.size = c * 3) :
    Calls Try.prog 129 #[.slice (some ⟨g, 0, none⟩) n c, .int .i64 n, .slice (some ⟨gb, 0, none⟩) 1 1] w fun e w' => e = .returned (.slice (some ⟨g, 0, none⟩) (n + 1) c) ∧ w' = w.setRow g (cur.toList.take (n * 3) ++ [b0, b1, b2] ++ cur.toList.drop (n * 3 + 3)).toArray := by
  obtain ⟨i0, hi0, hz0, hzs, hzb⟩ := infoS
  have hc63 : c ≤ 9223372036854775807 := by unfold maxLen at hc; omega
  have hrun : ∀ ty, (Builtin.append_ #[24, 24] ty #[.slice (some ⟨g, 0, none⟩) n c, .slice (some ⟨gb, 0, none⟩) 1 1]).run Try.prog w = _ := fun ty =>
    run_append_room_row w 24 24 ty 81 i0 Try.underlying24 hi0 g n c _ 1 [b0, b1, b2] (by rw [hzs]; exact srcS hb h1) hroom cur _ hg (by rw [hzs, hs]; show n * 3 + 3 ≤ c * 3; omega)
  rw [hzs] at hrun
  clear hi0 hz0 hzs hzb hs hb hg
  go_enter Try.func129, Try.ntmps129
  go_wp2_with (at_builtin; refine Lib.wpList_append_run _ rfl _ _ _ _ rfl _ _ rfl rfl _ _ (hrun _) ?_)
  go_ret
  exact ⟨rfl, by simp⟩
set_option maxHeartbeats 4000000 in
set_option maxRecDepth 100000 in
theorem ins_end_grow (A : Option Addr) (n c gb : Nat) (olds : List Value) (b0 b1 b2 : Value) (w : World) (hb : w.heap[gb]? = some (.cells #[b0, b1, b2] 81 (0, 0))) (h1 : ∀ u ∈ [b0, b1, b2], u.oneCell' = true) (hnc : n ≤ c) (hroom : c < n + 1) (hn : n ≤ 1048576)
    (hA : (A = none ∧ n = 0) ∨ ∃ g, A = some ⟨g, 0, none⟩) (hl : olds.length = n * 3) (ho : ∀ a, A = some a → ∀ j v, olds[j]? = some v → w.cell? (a.add j) = some v) :
    Calls Try.prog 129 #[.slice A n c, .int .i64 n, .slice (some ⟨gb, 0, none⟩) 1 1] w fun e w' => e = .returned (.slice (some ⟨w.heap.size, 0, none⟩) (n + 1) (grownCap w (n + 1) c 81)) ∧
      w' = w.drew.alloc (.cells ((olds ++ [b0, b1, b2]).toArray ++ Builtin.zeroCells zS.cells (grownCap w (n + 1) c 81 - (n + 1))) 81) := by
  obtain ⟨i0, hi0, hz0, hzs, hzb⟩ := infoS
  have hold : (Builtin.firstCells i0.size n (.slice A n c)).run Try.prog w.drew = .ok olds.toArray w.drew := by
    rw [hzs]
    rcases hA with ⟨rfl, rfl⟩ | ⟨g, rfl⟩
    · have e0 : olds = [] := List.length_eq_zero_iff.1 (by rw [hl])
      rw [e0]
      exact run_firstCells_none w.drew 3 0 0 c
    · exact run_firstCells_some w.drew 3 n _ n c olds hl (fun j v hj => ho _ rfl j v hj)
  have hrun : ∀ ty, (Builtin.append_ #[24, 24] ty #[.slice A n c, .slice (some ⟨gb, 0, none⟩) 1 1]).run Try.prog w = _ := fun ty =>
    run_append_grow_src w 24 24 ty 81 i0 zS Try.underlying24 hi0 hz0 A n c olds hold _ 1 [b0, b1, b2] (by rw [hzs]; exact srcS hb h1) hroom (by omega) (by rw [hzb]; exact growslice_fits hroom (by omega))
  have hc : c = n := by omega
  subst hc
  clear hi0 hz0 hzs hzb hb hl ho hold
  go_enter Try.func129, Try.ntmps129
  rcases hA with ⟨rfl, rfl⟩ | ⟨g, rfl⟩
  · go_wp2_with (at_builtin; refine Lib.wpList_append_run _ rfl _ _ _ _ rfl _ _ rfl rfl _ _ (hrun _) ?_)
    go_ret
    exact ⟨rfl, rfl⟩
  · go_wp2_with (at_builtin; refine Lib.wpList_append_run _ rfl _ _ _ _ rfl _ _ rfl rfl _ _ (hrun _) ?_)
    all_goals (go_ret; exact ⟨rfl, rfl⟩)
set_option maxHeartbeats 4000000 in
set_option maxRecDepth 100000 in
theorem ins_shift (g n c i gb : Nat) (cur : Array Value) (b0 b1 b2 : Value) (w : World) (hg : w.heap[g]? = some (.cells cur 81 (0, 0))) (hb : w.heap[gb]? = some (.cells #[b0, b1, b2] 81 (0, 0))) (hne : gb ≠ g) (h1 : ∀ u ∈ [b0, b1, b2], u.oneCell' = true) (h2 : ∀ u ∈ cur.toList.take (n * 3), u.oneCell' = true) (hi : i < n) (hroom : n + 1 ≤ c) (hc : c ≤ maxLen) (hs : cur.size = c * 3) :
    Calls Try.prog 129 #[.slice (some ⟨g, 0, none⟩) n c, .int .i64 i, .slice (some ⟨gb, 0, none⟩) 1 1] w fun e w' => e = .returned (.slice (some ⟨g, 0, none⟩) (n + 1) c) ∧ ∃ r1 : List Value, r1 = cur.toList.take ((i + 1) * 3) ++ (cur.toList.take (n * 3)).drop (i * 3) ++ cur.toList.drop ((i + 1) * 3 + (n - i) * 3) ∧
      w' = (w.drew.setRow g r1.toArray).setRow g (r1.take (i * 3) ++ [b0, b1, b2] ++ r1.drop (i * 3 + 3)).toArray := by
  have hc63 : c ≤ 9223372036854775807 := by unfold maxLen at hc; omega
  have hz2 : ¬ ((i : Int) = (n : Int)) := by omega
  have hcl : cur.toList.length = c * 3 := by rw [Array.length_toList, hs]
  have hsz : (Try.prog.info? 81).map (·.size) = some 3 := by
    obtain ⟨i0, hi0, h0, h1, h2⟩ := infoS
    rw [hi0]; simp [h1]
  have hsa : w.shape? gb = some (81, 3) := by simp [World.shape?, hb]
  have hsb : w.shape? g = some (81, cur.size) := by simp [World.shape?, hg]
  have hov : ∀ lb cb, (callFunc 178 #[.slice (some ⟨gb, 0, none⟩) 1 1, .slice (some ⟨g, (i + 1) * 3, none⟩) lb cb]).run Try.prog w = .ok (.value (.bool false)) w := fun lb cb => by
    rw [run_callFunc_extern Try.func178 (by kernel_rfl) (by kernel_rfl) (by kernel_rfl) (e := Extern.SlicesOverlaps.overlaps #[24, 24] #[4]) (by kernel_rfl),
      Lib.run_overlaps_apart w 24 4 81 Try.underlying24 3 Try.sizeOf81 ⟨gb, 0, none⟩ ⟨g, (i + 1) * 3, none⟩ 1 1 lb cb hne _ _ _ _ hsa hsb (by omega) (blk_frozen hb _) (blk_frozen hb _)]
    rfl
  obtain ⟨T, hT⟩ : ∃ T, T = (cur.toList.take (n * 3)).drop (i * 3) := ⟨_, rfl⟩
  have hTl : T.length = (n - i) * 3 := by rw [hT, List.length_drop, List.length_take, hcl]; omega
  have hTg : ∀ j v, T[j]? = some v → w.drew.cell? ⟨g, i * 3 + j, none⟩ = some v := fun j v hj => by
    show w.cell? _ = _
    rw [blk_cell hg, ← Array.getElem?_toList]
    rw [hT, List.getElem?_drop, List.getElem?_take] at hj
    split at hj
    · exact hj
    · cases hj
  have hcp1 : ∀ ty dc sc, (Builtin.copy_ #[24, 24] ty #[.slice (some ⟨g, (i + 1) * 3, none⟩) (n - i) dc, .slice (some ⟨g, i * 3, none⟩) (n + 1 - i) sc]).run Try.prog w.drew = .ok (goInt ((n - i : Nat) : Int)) (w.drew.setRow g (cur.toList.take ((i + 1) * 3) ++ T ++ cur.toList.drop ((i + 1) * 3 + (n - i) * 3)).toArray) := fun ty dc sc => by
    rw [← hTl]
    exact run_copy_row_n w.drew _ _ ty 81 g ((i + 1) * 3) (n - i) dc ⟨g, i * 3, none⟩ (n + 1 - i) sc cur 81 T (n - i) Try.underlying24 hsz hg (by simp only [Nat.min_def]; split <;> omega) hTl (fun j v hj => by rw [Addr.add_lit]; exact hTg j v hj) (by rw [hTl, hs]; omega) (fun v hv => h2 v (by rw [hT] at hv; exact List.mem_of_mem_drop hv))
  obtain ⟨r1, hr1⟩ : ∃ r1 : List Value, r1 = cur.toList.take ((i + 1) * 3) ++ T ++ cur.toList.drop ((i + 1) * 3 + (n - i) * 3) := ⟨_, rfl⟩
  rw [← hr1] at hcp1
  have hr1l : r1.length = c * 3 := by rw [hr1, List.length_append, List.length_append, List.length_take, List.length_drop, hTl, hcl]; omega
  have hW1 : (w.drew.setRow g r1.toArray).heap[g]? = some (.cells r1.toArray 81 (0, 0)) := setRow_heap w.drew g cur _ _ _ hg
  have hWb : (w.drew.setRow g r1.toArray).heap[gb]? = some (.cells #[b0, b1, b2] 81 (0, 0)) := (setRow_other w.drew g gb _ hne).trans hb
  have hcp2 : ∀ ty dc, (Builtin.copy_ #[24, 24] ty #[.slice (some ⟨g, i * 3, none⟩) (n + 1 - i) dc, .slice (some ⟨gb, 0, none⟩) 1 1]).run Try.prog (w.drew.setRow g r1.toArray) = .ok (goInt 1) ((w.drew.setRow g r1.toArray).setRow g (r1.take (i * 3) ++ [b0, b1, b2] ++ r1.drop (i * 3 + 3)).toArray) := fun ty dc => by
    have := run_copy_row_n (P := Try.prog) (w.drew.setRow g r1.toArray) 24 24 ty 81 g (i * 3) (n + 1 - i) dc ⟨gb, 0, none⟩ 1 1 r1.toArray 81 [b0, b1, b2] 1 Try.underlying24 hsz hW1 (by simp only [Nat.min_def]; split <;> omega) rfl (fun j v hj => by rw [Addr.add_lit, Nat.zero_add, blk_cell hWb]; simpa using hj) (by rw [List.size_toArray, hr1l]; show i * 3 + 3 ≤ c * 3; omega) h1
    exact this
  have mixed : Try.prog.follows .mixedOrders = true := by kernel_rfl
  have hw1 : IntKind.i64.wrap ((i : Int) + 1) = (i : Int) + 1 := by rw [IntKind.wrap_i64]; omega
  have hw2 : IntKind.i64.wrap ((n : Int) + 1) = (n : Int) + 1 := by rw [IntKind.wrap_i64]; omega
  have hb1 : (0 : Int) ≤ (i : Int) + 1 := by omega
  have hin : i ≤ n := by omega
  have htn : ((i : Int) + 1).toNat = i + 1 := by omega
  have htn2 : ((n : Int) + 1).toNat = n + 1 := by omega
  have hb2 : ¬ (c = i + 1) := by omega
  have hb3 : (i : Int) ≤ (n : Int) + 1 := by omega
  have hb4 : ¬ (c = i) := by omega
  have hb5 : ¬ ((c : Int) < (n : Int) + 1) := by omega
  have HR1 := ak (hr1.trans (by rw [hT]))
  clear hcl hsz hsa hsb hT hTl hTg hr1l hW1 hWb hg hb hs h1 h2 hr1
  go_enter Try.func129, Try.ntmps129
  go_wp2_with (simp only [hov])
  go_region_law_o (refine step_copy_runI rfl _ _ 24 24 rfl _ _ (by simp [Act.eval, Act.put]) (by simp [Act.eval, Act.put]) (hcp1 _ _ _) ?_)
  go_wp2_with (at_builtin; refine wpList_copy_runI _ rfl _ _ 24 24 rfl _ _ rfl rfl (hcp2 _ _) ?_)
  go_ret
  exact ⟨rfl, r1, HR1.out, by simp⟩
set_option maxHeartbeats 4000000 in
set_option maxRecDepth 100000 in
theorem ins_grow (g n c i gb : Nat) (cur : Array Value) (b0 b1 b2 : Value) (w : World) (hg : w.heap[g]? = some (.cells cur 81 (0, 0))) (hb : w.heap[gb]? = some (.cells #[b0, b1, b2] 81 (0, 0))) (h1 : ∀ u ∈ [b0, b1, b2], u.oneCell' = true) (h2 : ∀ u ∈ cur.toList.take (n * 3), u.oneCell' = true) (hi : i < n) (hnc : n ≤ c) (hroom : c < n + 1) (hn : n ≤ 1048576) (hs : cur.size = c * 3) :
    Calls Try.prog 129 #[.slice (some ⟨g, 0, none⟩) n c, .int .i64 i, .slice (some ⟨gb, 0, none⟩) 1 1] w fun e w' => ∃ (G : Nat) (ROW : Array Value) (r1 : List Value), e = .returned (.slice (some ⟨w.heap.size, 0, none⟩) (n + 1) G) ∧ n + 1 ≤ G ∧ G ≤ maxLen ∧ ROW.size = G * 3 ∧ ROW.toList.take (i * 3) = cur.toList.take (i * 3) ∧ r1 = ROW.toList.take (i * 3) ++ [b0, b1, b2] ++ ROW.toList.drop (i * 3 + 3) ∧
      w' = ((w.alloc (.cells ROW 81)).drew.setRow w.heap.size r1.toArray).drew.setRow w.heap.size (r1.take ((i + 1) * 3) ++ (cur.toList.take (n * 3)).drop (i * 3) ++ r1.drop ((i + 1) * 3 + (n - i) * 3)).toArray := by
  have hc : c = n := by omega
  subst hc
  have hz2 : ¬ ((i : Int) = (c : Int)) := by omega
  have hz3 : (c : Int) < (c : Int) + 1 := by omega
  have hcl : cur.toList.length = c * 3 := by rw [Array.length_toList, hs]
  obtain ⟨i0, hi0, hz0, hzs, hzb⟩ := infoS
  have hsz : (Try.prog.info? 81).map (·.size) = some 3 := by rw [hi0]; simp [hzs]
  have hgw := blk_lt hg
  have hbw := blk_lt hb
  have hik : i + (c + 1 - i) = c + 1 := by omega
  have hkk : (c : Int) + 1 - (i : Int) = ((c + 1 - i : Nat) : Int) := by omega
  have hold : (Builtin.firstCells i0.size i (.slice (some ⟨g, 0, none⟩) i c)).run Try.prog w.drew = .ok (cur.toList.take (i * 3)).toArray w.drew := by
    rw [hzs]
    exact run_firstCells_some w.drew 3 i ⟨g, 0, none⟩ i c (cur.toList.take (i * 3)) (by rw [List.length_take, hcl]; omega) (fun j v hj => by
      show w.cell? _ = _
      rw [Addr.add_lit, Nat.zero_add, blk_cell hg, ← Array.getElem?_toList]
      rw [List.getElem?_take] at hj
      split at hj
      · exact hj
      · cases hj)
  obtain ⟨G, hG⟩ : ∃ G, G = grownCap w (c + 1) c 81 := ⟨_, rfl⟩
  have hGn : c + 1 ≤ G := by rw [hG]; exact grownCap_ge w _ _ _
  have hGm : G ≤ maxLen := by rw [hG]; exact grownCap_le_maxLen w (c + 1) c _ (by unfold maxLen; omega)
  obtain ⟨ROW, hROW⟩ : ∃ ROW : Array Value, ROW = (cur.toList.take (i * 3)).toArray ++ Builtin.zeroCells zS.cells (c + 1 - i) ++ Builtin.zeroCells zS.cells (G - (c + 1)) := ⟨_, rfl⟩
  have hrz : ∀ ty, (Builtin.append_ #[24, 3] ty #[.slice (some ⟨g, 0, none⟩) i c, .int .i64 ((c : Int) + 1 - (i : Int))]).run Try.prog w = .ok (.slice (some ⟨w.heap.size, 0, none⟩) (c + 1) G) (w.drew.alloc (.cells ROW 81)) := fun ty => by
    have h := Lib.run_append_grow_zeros w 24 3 ty 81 i0 _ .i64 .i64 Try.underlying24 Try.underlying3 hi0 hz0 (some ⟨g, 0, none⟩) i c (cur.toList.take (i * 3)) hold (c + 1 - i) (by omega) (by omega) (by omega) (by omega) (by rw [hzb]; omega) (by rw [hzb, hik]; exact growslice_fits hroom (by omega))
    rw [hik] at h
    rw [hkk, hROW, hG]
    exact h
  have hzl : ∀ k, (Builtin.zeroCells zS.cells k).size = k * 3 := fun k => by simp [Builtin.zeroCells, Value.cells]
  have hRl : ROW.size = G * 3 := by
    rw [hROW, Array.size_append, Array.size_append, hzl, hzl, List.size_toArray, List.length_take, hcl]
    omega
  have hRt : ROW.toList.take (i * 3) = cur.toList.take (i * 3) := by
    rw [hROW, Array.toList_append, Array.toList_append, List.append_assoc]
    have hl : (cur.toList.take (i * 3)).length = i * 3 := by rw [List.length_take, hcl]; omega
    have h3 := List.take_left (l₁ := cur.toList.take (i * 3)) (l₂ := (Builtin.zeroCells zS.cells (c + 1 - i)).toList ++ (Builtin.zeroCells zS.cells (G - (c + 1))).toList)
    rw [hl] at h3
    exact h3
  have hRtl : ROW.toList.length = G * 3 := by rw [Array.length_toList, hRl]
  have hN : (w.drew.alloc (.cells ROW 81)).heap[w.heap.size]? = some (.cells ROW 81 (0, 0)) := by
    show (w.heap.push _)[w.heap.size]? = _
    exact Array.getElem?_push_size
  have hNg : (w.drew.alloc (.cells ROW 81)).heap[g]? = some (.cells cur 81 (0, 0)) := by
    rw [← hg]; show (w.heap.push _)[g]? = _; rw [Array.getElem?_push_lt hgw]; exact (Array.getElem?_eq_getElem hgw).symm
  have hNb : (w.drew.alloc (.cells ROW 81)).heap[gb]? = some (.cells #[b0, b1, b2] 81 (0, 0)) := by
    rw [← hb]; show (w.heap.push _)[gb]? = _; rw [Array.getElem?_push_lt hbw]; exact (Array.getElem?_eq_getElem hbw).symm
  obtain ⟨T, hT⟩ : ∃ T, T = (cur.toList.take (c * 3)).drop (i * 3) := ⟨_, rfl⟩
  have hTl : T.length = (c - i) * 3 := by rw [hT, List.length_drop, List.length_take, hcl]; omega
  obtain ⟨r1, hr1⟩ : ∃ r1 : List Value, r1 = ROW.toList.take (i * 3) ++ [b0, b1, b2] ++ ROW.toList.drop (i * 3 + 3) := ⟨_, rfl⟩
  have hr1l : r1.length = G * 3 := by
    rw [hr1, List.length_append, List.length_append, List.length_take, List.length_drop, hRtl]
    show min (i * 3) (G * 3) + 3 + _ = _
    omega
  have hcpA : ∀ (W : World), W.heap = (w.drew.alloc (.cells ROW 81)).heap → ∀ ty dc, (Builtin.copy_ #[24, 24] ty #[.slice (some ⟨w.heap.size, i * 3, none⟩) (c + 1 - i) dc, .slice (some ⟨gb, 0, none⟩) 1 1]).run Try.prog W = .ok (goInt 1) (W.setRow w.heap.size r1.toArray) := fun W hW ty dc => by
    have := run_copy_row_n (P := Try.prog) W 24 24 ty 81 w.heap.size (i * 3) (c + 1 - i) dc ⟨gb, 0, none⟩ 1 1 ROW 81 [b0, b1, b2] 1 Try.underlying24 hsz (by rw [hW]; exact hN) (by simp only [Nat.min_def]; split <;> omega) rfl (fun j v hj => by rw [Addr.add_lit, Nat.zero_add, blk_cell (w := W) (by rw [hW]; exact hNb)]; simpa using hj) (by rw [hRl]; show i * 3 + 3 ≤ G * 3; omega) h1
    rw [hr1]
    exact this
  obtain ⟨r2, hr2⟩ : ∃ r2 : List Value, r2 = r1.take ((i + 1) * 3) ++ T ++ r1.drop ((i + 1) * 3 + (c - i) * 3) := ⟨_, rfl⟩
  have hcpB : ∀ (W : World), W.heap = ((w.drew.alloc (.cells ROW 81)).setRow w.heap.size r1.toArray).heap → ∀ ty dc sc, (Builtin.copy_ #[24, 24] ty #[.slice (some ⟨w.heap.size, (i + 1) * 3, none⟩) (c - i) dc, .slice (some ⟨g, i * 3, none⟩) (c - i) sc]).run Try.prog W = .ok (goInt ((c - i : Nat) : Int)) (W.setRow w.heap.size r2.toArray) := fun W hW ty dc sc => by
    have hWN : W.heap[w.heap.size]? = some (.cells r1.toArray 81 (0, 0)) := by rw [hW]; exact setRow_heap _ _ ROW _ _ _ hN
    have hWg : W.heap[g]? = some (.cells cur 81 (0, 0)) := by rw [hW]; exact (setRow_other _ _ g _ (by omega)).trans hNg
    have := run_copy_row_n (P := Try.prog) W 24 24 ty 81 w.heap.size ((i + 1) * 3) (c - i) dc ⟨g, i * 3, none⟩ (c - i) sc r1.toArray 81 T (c - i) Try.underlying24 hsz hWN (by simp) hTl (fun j v hj => by
      rw [Addr.add_lit, blk_cell hWg, ← Array.getElem?_toList]
      rw [hT, List.getElem?_drop, List.getElem?_take] at hj
      split at hj
      · exact hj
      · cases hj) (by rw [List.size_toArray, hr1l, hTl]; omega) (fun v hv => h2 v (by rw [hT] at hv; exact List.mem_of_mem_drop hv))
    rw [hr2, ← hTl]
    exact this
  have mixed : Try.prog.follows .mixedOrders = true := by kernel_rfl
  have hw1 : IntKind.i64.wrap ((i : Int) + 1) = (i : Int) + 1 := by rw [IntKind.wrap_i64]; omega
  have hw2 : IntKind.i64.wrap ((c : Int) + 1) = (c : Int) + 1 := by rw [IntKind.wrap_i64]; omega
  have hw3 : IntKind.i64.wrap ((c : Int) + 1 - (i : Int)) = (c : Int) + 1 - (i : Int) := by rw [IntKind.wrap_i64]; omega
  have hb1 : (0 : Int) ≤ (i : Int) + 1 := by omega
  have hin : i ≤ c := by omega
  have htn : ((i : Int) + 1).toNat = i + 1 := by omega
  have hb3 : (i : Int) ≤ (c : Int) := by omega
  have hb5 : (i : Int) ≤ (c : Int) + 1 := by omega
  have hGi : ¬ (G = i) := by omega
  have hGim : ¬ (G = i + 1) := by omega
  have hci : ¬ (c = i) := by omega
  have HR1 := ak hr1
  have HR2 := ak (hr2.trans (by rw [hT]))
  have HF := ak (And.intro hGn (And.intro hGm (And.intro hRl hRt)))
  have hE : ((w.alloc (.cells ROW 81)).drew).heap = (w.drew.alloc (.cells ROW 81)).heap := rfl
  have hF : (((w.alloc (.cells ROW 81)).drew.setRow w.heap.size r1.toArray).drew).heap = ((w.drew.alloc (.cells ROW 81)).setRow w.heap.size r1.toArray).heap := rfl
  clear hcl hi0 hz0 hzs hzb hsz hgw hbw hik hkk hold hG hROW hzl hRl hRt hRtl hN hNg hNb hT hTl hr1 hr1l hr2 hg hb hs h1 h2
  go_enter Try.func129, Try.ntmps129
  go_wp2_with (first
    | (at_builtin; refine Lib.wpList_append_run _ rfl _ _ _ _ rfl _ _ rfl rfl _ _ (hrz _) ?_)
    | (at_builtin; refine wpList_copy_runI _ rfl _ _ 24 24 rfl _ _ rfl rfl (hcpA _ hE _ _) ?_))
  go_region_law_o (refine step_copy_runI rfl _ _ 24 24 rfl (.slice (some ⟨w.heap.size, (i + 1) * 3, none⟩) (c - i) (G - (i + 1))) (.slice (some ⟨g, i * 3, none⟩) (c - i) (c - i)) (by simp [Act.eval, Act.put]) (by simp [Act.eval, Act.put]) (hcpB _ hF 3 (G - (i + 1)) (c - i)) ?_)
  go_wp2
  go_ret
  exact ⟨G, ROW, r1, rfl, HF.out.1, HF.out.2.1, HF.out.2.2.1, HF.out.2.2.2, HR1.out, by rw [← HR2.out]⟩
theorem insertS (X : List (List Value)) (i : Nat) (b0 b1 b2 : Value) (gb : Nat) (ok : Nat → Prop) (v : Value) (w0 w : World) (hB : Below w0.heap.size w0 w) (hR : (Kd.raw 3).R 81 w w0.heap.size ok v X) (hb : w.heap[gb]? = some (.cells #[b0, b1, b2] 81 (0, 0))) (hne : some gb ≠ v.ownBlock) (h1 : ∀ u ∈ [b0, b1, b2], u.oneCell' = true) (hi : i ≤ X.length) (hl : X.length ≤ 1048576) (hok : ∀ k, w.heap.size ≤ k → ok k) :
    Calls Try.prog 129 #[v, .int .i64 i, .slice (some ⟨gb, 0, none⟩) 1 1] w fun e w' => ∃ v' : Value, e = .returned v' ∧ (Kd.raw 3).R 81 w' w0.heap.size ok v' (X.take i ++ [b0, b1, b2] :: X.drop i) ∧ (v'.ownBlock = v.ownBlock ∨ ∃ b, v'.ownBlock = some b ∧ w.heap.size ≤ b) ∧ Below w0.heap.size w0 w' ∧ Kept w w' (fun k => some k = v.ownBlock) := by
  obtain ⟨A, c, rfl⟩ := Kd.R_slice hR
  obtain ⟨-, hX, hc⟩ := raw_out hR
  have hX1 := fun x hx => (hX x hx).1
  have hXl := flat_len hX1
  have hR0 := ins_rows (c := [b0, b1, b2]) hX ⟨rfl, h1⟩ i
  have hF0 := ins_flat (c := [b0, b1, b2]) hX1 i
  have hlen : (X.take i ++ [b0, b1, b2] :: X.drop i).length = X.length + 1 := by rw [List.length_append, List.length_cons, List.length_take, List.length_drop]; omega
  have hF1 : ∀ u ∈ X.flatten, u.oneCell' = true := fun u hu => by
    obtain ⟨x, hx, hux⟩ := List.mem_flatten.1 hu
    exact (hX x hx).2 u hux
  have hB0 := hB.size
  obtain ⟨n, hn⟩ : ∃ n, n = X.length := ⟨_, rfl⟩
  rw [← hn] at hlen hXl hl hi ⊢
  rw [← hn] at hc
  have hzl : ∀ k, (Builtin.zeroCells zS.cells k).size = k * 3 := fun k => by simp [Builtin.zeroCells, Value.cells]
  rcases hc with ⟨rfl, h0, rfl⟩ | ⟨g, cur, rfl, hbg, hg, hnc, hcm, hcs, hct⟩
  · have hX0 : X = [] := List.length_eq_zero_iff.1 (by omega)
    have i0 : i = n := by omega
    subst hX0 i0 h0
    refine (ins_end_grow none 0 0 gb [] b0 b1 b2 w hb h1 (Nat.le_refl _) (by omega) (by omega) (.inl ⟨rfl, rfl⟩) rfl (fun a h => by cases h)).mono ?_
    rintro e w' ⟨rfl, rfl⟩
    have hG := grownCap_ge w 1 0 81
    have hG2 := grownCap_le_maxLen w 1 0 81 (by unfold maxLen; omega)
    refine ⟨_, rfl, raw_in (g := w.heap.size) (hok _ (Nat.le_refl _)) hB0 (by show (w.heap.push _)[w.heap.size]? = _; exact Array.getElem?_push_size) rfl hG hG2 ?_ ?_ hR0, .inr ⟨_, rfl, Nat.le_refl _⟩, Below.alloc (pw_below_drewN hB 1) hB0 _, ⟨by show w.heap.size ≤ (w.heap.push _).size; simp, fun k hk _ => by show (w.heap.push _)[k]? = _; rw [Array.getElem?_push_lt hk, Array.getElem?_eq_getElem hk]⟩⟩
    · rw [Array.size_append, hzl]
      show 3 + (grownCap w 1 0 81 - 1) * 3 = grownCap w 1 0 81 * 3
      omega
    · rw [Array.toList_append]
      rfl
  · have hcl : cur.toList.length = c * 3 := by rw [Array.length_toList, hcs]
    have hgw := blk_lt hg
    have hgb : gb ≠ g := fun e => hne (by rw [e]; simp [Value.ownBlock])
    have hKg : (fun k => some k = (Value.slice (some ⟨g, 0, none⟩) n c).ownBlock) g := by simp [Value.ownBlock]
    have okg : ok g := hR.1 g (by simp [Value.ownBlock])
    have hdr : X.flatten.drop (i * 3) = (cur.toList.take (n * 3)).drop (i * 3) := by rw [hct]
    have htk : X.flatten.take (i * 3) = cur.toList.take (i * 3) := by rw [← hct, List.take_take, Nat.min_eq_left (by omega)]
    rw [htk, hdr] at hF0
    obtain ⟨T, hT⟩ : ∃ T, T = (cur.toList.take (n * 3)).drop (i * 3) := ⟨_, rfl⟩
    have hTl : T.length = (n - i) * 3 := by rw [hT, List.length_drop, List.length_take, hcl]; omega
    rw [← hT] at hF0
    have hli : (cur.toList.take (i * 3)).length = i * 3 := by rw [List.length_take, hcl]; omega
    by_cases hin : i = n
    · subst hin
      have hT0 : T = [] := List.length_eq_zero_iff.1 (by rw [hTl]; omega)
      rw [hT0, List.append_nil] at hF0
      by_cases hroom : i + 1 ≤ c
      · refine (ins_end_room g i c gb cur b0 b1 b2 w hg hb h1 hroom hcm hcs).mono ?_
        rintro e w' ⟨rfl, rfl⟩
        refine ⟨_, rfl, raw_in (g := g) okg hbg (setRow_heap w g cur _ _ _ hg) hlen.symm hroom hcm ?_ ?_ hR0, .inl rfl, below_setRow hB hbg _, kept_setRow (Kept.refl w _) (.inl hKg) _⟩
        · rw [List.size_toArray, List.length_append, List.length_append, List.length_drop, hli, hcl]
          show i * 3 + 3 + _ = _
          omega
        · rw [hF0, show (i + 1) * 3 = (cur.toList.take (i * 3) ++ [b0, b1, b2]).length from by rw [List.length_append, hli]; show _ = i * 3 + 3; omega]
          exact List.take_left
      · refine (ins_end_grow (some ⟨g, 0, none⟩) i c gb (cur.toList.take (i * 3)) b0 b1 b2 w hb h1 hnc (by omega) hl (.inr ⟨g, rfl⟩) hli (fun a ha j v hj => by
          injection ha with ha
          subst ha
          rw [Addr.add_lit, Nat.zero_add, blk_cell hg, ← Array.getElem?_toList]
          rw [List.getElem?_take] at hj
          split at hj
          · exact hj
          · cases hj)).mono ?_
        rintro e w' ⟨rfl, rfl⟩
        have hG := grownCap_ge w (i + 1) c 81
        have hG2 := grownCap_le_maxLen w (i + 1) c 81 (by unfold maxLen; omega)
        refine ⟨_, rfl, raw_in (g := w.heap.size) (hok _ (Nat.le_refl _)) hB0 (by show (w.heap.push _)[w.heap.size]? = _; exact Array.getElem?_push_size) hlen.symm hG hG2 ?_ ?_ hR0, .inr ⟨_, rfl, Nat.le_refl _⟩, Below.alloc (pw_below_drewN hB 1) hB0 _, ⟨by show w.heap.size ≤ (w.heap.push _).size; simp, fun k hk _ => by show (w.heap.push _)[k]? = _; rw [Array.getElem?_push_lt hk, Array.getElem?_eq_getElem hk]⟩⟩
        · rw [Array.size_append, hzl, List.size_toArray, List.length_append, hli]
          show i * 3 + 3 + _ = _
          omega
        · rw [hF0, Array.toList_append, show (i + 1) * 3 = (cur.toList.take (i * 3) ++ [b0, b1, b2]).length from by rw [List.length_append, hli]; show _ = i * 3 + 3; omega]
          exact List.take_left
    · have hilt : i < n := by omega
      have ht : ∀ u ∈ cur.toList.take (n * 3), u.oneCell' = true := by rw [hct]; exact hF1
      by_cases hroom : n + 1 ≤ c
      · refine (ins_shift g n c i gb cur b0 b1 b2 w hg hb hgb h1 ht hilt hroom hcm hcs).mono ?_
        rintro e w' ⟨rfl, r1, hr1, rfl⟩
        rw [← hT] at hr1
        have e13 : (i + 1) * 3 = i * 3 + 3 := by omega
        have hl1 : (cur.toList.take ((i + 1) * 3)).length = (i + 1) * 3 := by rw [List.length_take, hcl]; omega
        have hr1l : r1.length = c * 3 := by rw [hr1, List.length_append, List.length_append, List.length_drop, hl1, hTl, hcl]; omega
        have hr1t : r1.take (i * 3) = cur.toList.take (i * 3) := by
          rw [hr1, List.append_assoc, List.take_append_of_le_length (by rw [hl1]; omega), List.take_take, Nat.min_eq_left (by omega)]
        have hr1d : r1.drop (i * 3 + 3) = T ++ cur.toList.drop ((i + 1) * 3 + (n - i) * 3) := by
          rw [hr1, List.append_assoc, ← e13]
          have := List.drop_left (l₁ := cur.toList.take ((i + 1) * 3)) (l₂ := T ++ cur.toList.drop ((i + 1) * 3 + (n - i) * 3))
          rw [hl1] at this
          exact this
        have hW1 : (w.drew.setRow g r1.toArray).heap[g]? = some (.cells r1.toArray 81 (0, 0)) := setRow_heap w.drew g cur _ _ _ hg
        refine ⟨_, rfl, raw_in (g := g) okg hbg (setRow_heap _ g _ _ _ _ hW1) hlen.symm hroom hcm ?_ ?_ hR0, .inl rfl, below_setRow (below_setRow (pw_below_drewN hB 1) hbg _) hbg _, kept_setRow (kept_setRow (Kept.of_below (pw_below_drewN (Below.refl _ _) 1) _) (.inl hKg) _) (.inl hKg) _⟩
        · rw [List.size_toArray, List.length_append, List.length_append, List.length_drop, hr1t, hli, hr1l]
          show i * 3 + 3 + _ = _
          omega
        · rw [hF0, hr1t, hr1d, ← List.append_assoc, show (n + 1) * 3 = (cur.toList.take (i * 3) ++ [b0, b1, b2] ++ T).length from by rw [List.length_append, List.length_append, hli, hTl]; show _ = i * 3 + 3 + _; omega]
          exact List.take_left
      · refine (ins_grow g n c i gb cur b0 b1 b2 w hg hb h1 ht hilt hnc (by omega) hl hcs).mono ?_
        rintro e w' ⟨G, ROW, r1, rfl, hG, hG2, hRs, hRt, hr1, rfl⟩
        rw [← hT]
        have e13 : (i + 1) * 3 = i * 3 + 3 := by omega
        have hRl : ROW.toList.length = G * 3 := by rw [Array.length_toList, hRs]
        rw [hRt] at hr1
        have hl2 : (cur.toList.take (i * 3) ++ [b0, b1, b2]).length = (i + 1) * 3 := by rw [List.length_append, hli]; show i * 3 + 3 = _; omega
        have hr1l : r1.length = G * 3 := by rw [hr1, List.length_append, hl2, List.length_drop, hRl]; omega
        have hr1t : r1.take ((i + 1) * 3) = cur.toList.take (i * 3) ++ [b0, b1, b2] := by
          rw [hr1, ← hl2]
          exact List.take_left
        have hN : ((w.alloc (.cells ROW 81)).drew).heap[w.heap.size]? = some (.cells ROW 81 (0, 0)) := by
          show (w.heap.push _)[w.heap.size]? = _
          exact Array.getElem?_push_size
        have hW1 : (((w.alloc (.cells ROW 81)).drew.setRow w.heap.size r1.toArray).drew).heap[w.heap.size]? = some (.cells r1.toArray 81 (0, 0)) := setRow_heap _ _ ROW _ _ _ hN
        refine ⟨_, rfl, raw_in (g := w.heap.size) (hok _ (Nat.le_refl _)) hB0 (setRow_heap _ _ _ _ _ _ hW1) hlen.symm hG hG2 ?_ ?_ hR0, .inr ⟨_, rfl, Nat.le_refl _⟩, below_setRow (pw_below_drewN (below_setRow (pw_below_drewN (hB.alloc hB0 _) 1) hB0 _) 1) hB0 _, kept_setRow (show Kept w (((w.alloc (.cells ROW 81)).drew.setRow w.heap.size r1.toArray).drew) _ from kept_setRow (show Kept w ((w.alloc (.cells ROW 81)).drew) _ from Kept.of_below ((Below.refl w.heap.size w).alloc (Nat.le_refl _) (.cells ROW 81)) (fun k => some k = (Value.slice (some ⟨g, 0, none⟩) n c).ownBlock)) (.inr (Nat.le_refl _)) r1.toArray) (.inr (Nat.le_refl _)) _⟩
        · rw [List.size_toArray, List.length_append, List.length_append, List.length_drop, hr1t, hl2, hTl, hr1l]
          omega
        · rw [hF0, hr1t, show (n + 1) * 3 = (cur.toList.take (i * 3) ++ [b0, b1, b2] ++ T).length from by rw [List.length_append, hl2, hTl]; omega]
          exact List.take_left
end Go.Proofs.Ytplekidnlofioaa.Q
namespace Go.Proofs.Ytplekidnlofioaa.Q
open Go.RowKit Go.Proofs.YtplekidnlofioaaW.PrintWords Go.Proofs.YtplekidnlofioaaW.PrintLast Go.Proofs.YtplekidnlofioaaW.PrintMore
set_option linter.unusedVariables false
set_option linter.unusedSimpArgs false
def PutS (P0_ : Nat → Prop) (w0 w : World) (gb : Nat) (cb : Array Value) (u : Value) (l : List S81) (W : World) : Prop :=
  W.heap[gb]? = some (.cells cb 30 (0, 0)) ∧ Kd.S kq 81 W w0.heap.size (fun k => P0_ k ∨ w.heap.size ≤ k) u l ∧ Below w0.heap.size w0 W ∧ Kept w W P0_
theorem putS_below {P0_ : Nat → Prop} {w0 w : World} {gb : Nat} {cb : Array Value} {u : Value} {l : List S81} {W W' : World} (h : PutS P0_ w0 w gb cb u l W) (hb : Below W.heap.size W W') : PutS P0_ w0 w gb cb u l W' :=
  ⟨blk_below h.1 hb, Kd.S_below h.2.1 hb, below_step h.2.2.1 hb, Kept.below h.2.2.2 hb⟩
section
variable {P : Program} {ops : Array Oper} {rest : List Oper} {o : Oper} {a : Act} {Q : Exit → Act → World → Prop}
/-- A slice written out. -/
theorem bsl {W : World} (N : Tmp) (cs : Array Value) (t : TypeId) (n : Nat) (h : ∀ g, g = W.heap.size → ∀ w1, w1.heap[g]? = some (.cells cs t (0, 0)) → Below W.heap.size W w1 → wpList P ops Q rest (a.put o.dst (.slice (some ⟨g, 0, none⟩) n n)) w1)
    (hd : o.dst = some N := by rfl) (hgd : o.guard = none := by rfl) (hrun : (execOp a.eval o).run P W = .ok (.value (.slice (some ⟨W.heap.size, 0, none⟩) n n)) (W.alloc (.cells cs t (0, 0))) := by first | (go_simp; done) | (go_simp; rfl)) : wpList P ops Q (o :: rest) a W := by
  refine wpList_plain hgd fun K hK => ?_
  unfold Oper.wp
  rw [hrun]
  exact hK _ _ (h _ rfl _ (by show (W.heap.push _)[W.heap.size]? = _; exact Array.getElem?_push_size) ((Below.refl _ _).alloc (Nat.le_refl _) _))
end
def CellQ (W : World) (b : Nat) (ok : Nat → Prop) (s : S81) (c : List Value) : Prop := ∃ A m n, c = [Value.string s.f0, Value.string s.f1, Value.slice A m n] ∧ Kd.Q k37 37 W b ok (Value.slice A m n) s.f2
theorem Sq_split {b : Nat} {W : World} {v : Value} {l : List S81} {okS : Nat → Prop} (h : Kd.S kq 81 W b okS v l) : ∃ (f : Nat → Nat) (Z : List (S81 × List Value × Nat)), Z.map (·.1) = l ∧ Z.map (·.2.2) = List.range l.length ∧ (Kd.raw 3).R 81 W b okS v (Z.map (·.2.1)) ∧
    ∀ z ∈ Z, CellQ W b (fun k => ((okS k ∧ some k ≠ v.ownBlock) ∧ f k = z.2.2) ∧ k < W.heap.size) z.1 z.2.1 := by
  obtain ⟨f, h0, inner, ho, hr⟩ := h
  rw [List.length_zipIdx] at ho
  have hlen : inner.length = l.length * 3 := by have := hr.1; rw [List.length_zipIdx] at this; exact this
  have e1 : (l.zipIdx.map fun p => (p.1, (inner.drop (p.2 * 3)).take 3, p.2)).map (·.1) = l := by rw [List.map_map]; exact List.zipIdx_map_fst 0 l
  have e2 : (l.zipIdx.map fun p => (p.1, (inner.drop (p.2 * 3)).take 3, p.2)).map (·.2.2) = List.range l.length := by
    rw [List.map_map]
    show l.zipIdx.map Prod.snd = _
    rw [List.zipIdx_map_snd, List.range_eq_range']
  have hM : ∀ j s, l[j]? = some s → kq.M W b (fun k => (okS k ∧ some k ≠ v.ownBlock) ∧ f k = j) s ((inner.drop (j * 3)).take 3) := fun j s hs => hr.2 j (s, j) (Kd.zip_at hs)
  refine ⟨f, l.zipIdx.map fun p => (p.1, (inner.drop (p.2 * 3)).take 3, p.2), e1, e2, ⟨fun k hk => h0 k hk, inner, by rw [List.length_map, List.length_map, List.length_zipIdx]; exact ho, by rw [List.length_map, List.length_map, List.length_zipIdx]; exact hlen, fun j c hj => ?_⟩, fun z hz => ?_⟩
  · rw [List.map_map, List.getElem?_map] at hj
    obtain ⟨p, hp, rfl⟩ := Option.map_eq_some_iff.1 hj
    rw [List.getElem?_zipIdx, Nat.zero_add] at hp
    obtain ⟨s, hs, rfl⟩ := Option.map_eq_some_iff.1 hp
    obtain ⟨v2, hc, hR⟩ := kq_openM (hM j s hs)
    obtain ⟨A, n, rfl, _⟩ := Kd.Q_slice hR
    show (inner.drop (j * 3)).take 3 = (inner.drop (j * 3)).take 3 ∧ ((inner.drop (j * 3)).take 3).length = 3 ∧ ∀ u ∈ (inner.drop (j * 3)).take 3, u.oneCell' = true
    rw [hc]
    refine ⟨rfl, rfl, fun u hu => ?_⟩
    simp only [List.mem_cons, List.not_mem_nil, or_false] at hu
    rcases hu with rfl | rfl | rfl <;> rfl
  · obtain ⟨p, hp, rfl⟩ := List.mem_map.1 hz
    obtain ⟨s, j⟩ := p
    have hs : l[j]? = some s := by
      exact List.mem_zipIdx_iff_getElem?.1 hp
    obtain ⟨v2, hc, hR⟩ := kq_openM (hM j s hs)
    obtain ⟨A, n, rfl, _⟩ := Kd.Q_slice hR
    exact ⟨A, _, n, hc, Kd.Q_mono (Kd.Q_bound hR) (fun k hk => ⟨⟨⟨hk.1.1.1, hk.1.1.2⟩, hk.1.2⟩, hk.2.2.1⟩)⟩
theorem Sq_join {b : Nat} {W : World} {v : Value} {ok : Nat → Prop} (f : Nat → Nat) (Z : List (S81 × List Value × Nat)) (hn : (Z.map (·.2.2)).Nodup) (hR : (Kd.raw 3).R 81 W b ok v (Z.map (·.2.1)))
    (hC : ∀ z ∈ Z, CellQ W b (fun k => (ok k ∧ some k ≠ v.ownBlock) ∧ f k = z.2.2) z.1 z.2.1) : Kd.S kq 81 W b ok v (Z.map (·.1)) := by
  obtain ⟨h0, inner, ho, hr⟩ := hR
  rw [List.length_map] at ho
  refine ⟨fun k => (Z.map (·.2.2)).idxOf (f k), h0, inner, by rw [List.length_zipIdx, List.length_map]; exact ho, by have := hr.1; rw [List.length_map] at this; rw [List.length_zipIdx, List.length_map]; exact this, fun j p hj => ?_⟩
  rw [List.getElem?_zipIdx, Nat.zero_add, List.getElem?_map] at hj
  obtain ⟨s, hs, rfl⟩ := Option.map_eq_some_iff.1 hj
  obtain ⟨z, hz, rfl⟩ := Option.map_eq_some_iff.1 hs
  have hc := (hr.2 j z.2.1 (by rw [List.getElem?_map, hz]; rfl)).1
  obtain ⟨A, m, n, e, hP⟩ := hC z (List.mem_of_getElem? hz)
  have hlt : j < (Z.map (·.2.2)).length := by rw [List.length_map]; exact (List.getElem?_eq_some_iff.1 hz).1
  have hj2 : (Z.map (·.2.2))[j] = z.2.2 := by rw [List.getElem_map]; congr 2; exact (List.getElem?_eq_some_iff.1 hz).2
  have hidx : (Z.map (·.2.2)).idxOf z.2.2 = j := by rw [← hj2]; exact hn.idxOf_getElem j hlt
  show kq.M W b (fun k => (ok k ∧ some k ≠ v.ownBlock) ∧ (Z.map (·.2.2)).idxOf (f k) = j) z.1 ((inner.drop (j * 3)).take 3)
  rw [show (inner.drop (j * 3)).take 3 = z.2.1 from hc, e]
  exact kq_mkM _ _ _ z.1 (Kd.Q_mono hP (fun k hk => ⟨hk.1, by rw [hk.2]; exact hidx⟩))
theorem ins_join {b i gq : Nat} {wq wz w' : World} {u v' : Value} {l : List S81} {ok : Nat → Prop} {f : Nat → Nat} {Z : List (S81 × List Value × Nat)} {s : S81} {m n : Nat}
    (hl : Z.map (·.1) = l) (ht : Z.map (·.2.2) = List.range l.length) (hC : ∀ z ∈ Z, CellQ wq b (fun k => ((ok k ∧ some k ≠ u.ownBlock) ∧ f k = z.2.2) ∧ k < wq.heap.size) z.1 z.2.1)
    (hu : ∀ k, u.ownBlock = some k → k < wq.heap.size) (hb : Below wq.heap.size wq wz) (hg1 : wq.heap.size ≤ gq) (hg2 : gq < wz.heap.size) (hQ : Kd.Q k37 37 wz b (fun k => k = gq) (.slice (some ⟨gq, 0, none⟩) m n) s.f2) (hok : ok gq)
    (hR : (Kd.raw 3).R 81 w' b ok v' ((Z.map (·.2.1)).take i ++ [.string s.f0, .string s.f1, .slice (some ⟨gq, 0, none⟩) m n] :: (Z.map (·.2.1)).drop i))
    (ho : v'.ownBlock = u.ownBlock ∨ ∃ g, v'.ownBlock = some g ∧ wz.heap.size ≤ g) (hk : Kept wz w' (fun k => some k = u.ownBlock)) : Kd.S kq 81 w' b ok v' (l.take i ++ s :: l.drop i) := by
  subst hl
  rw [← List.map_take, ← List.map_drop]
  rw [← List.map_take, ← List.map_drop] at hR
  rw [List.length_map] at ht
  have hj := Sq_join (b := b) (W := w') (v := v') (ok := ok) (fun k => if k = gq then Z.length else f k) (Z.take i ++ (s, [.string s.f0, .string s.f1, .slice (some ⟨gq, 0, none⟩) m n], Z.length) :: Z.drop i) ?_ (by rw [List.map_append, List.map_cons]; exact hR) ?_
  · rw [List.map_append, List.map_cons] at hj
    exact hj
  · have hp : ((Z.take i ++ (s, [.string s.f0, .string s.f1, .slice (some ⟨gq, 0, none⟩) m n], Z.length) :: Z.drop i).map (·.2.2)).Perm (Z.length :: List.range Z.length) := by
      rw [List.map_append, List.map_cons]
      refine List.perm_middle.trans ?_
      rw [← List.map_append, List.take_append_drop, ht]
    rw [hp.nodup_iff]
    exact List.nodup_cons.2 ⟨fun h => by have := List.mem_range.1 h; omega, List.nodup_range⟩
  · intro z hz
    have key : z ∈ Z ∨ z = (s, [.string s.f0, .string s.f1, .slice (some ⟨gq, 0, none⟩) m n], Z.length) := by
      rcases List.mem_append.1 hz with hz | hz
      · exact .inl (List.mem_of_mem_take hz)
      · rcases List.mem_cons.1 hz with hz | hz
        · exact .inr hz
        · exact .inl (List.mem_of_mem_drop hz)
    have hv : ∀ k, k < wz.heap.size → some k ≠ u.ownBlock → some k ≠ v'.ownBlock := fun k h1 h2 h3 => by
      rcases ho with ho | ⟨g, ho, hg⟩
      · exact h2 (h3.trans ho)
      · rw [ho] at h3
        injection h3 with h3
        omega
    have hgu : some gq ≠ u.ownBlock := fun h => by have := hu gq h.symm; omega
    rcases key with hz | rfl
    · obtain ⟨A, m', n', e, hP⟩ := hC z hz
      exact ⟨A, m', n', e, Kd.Q_mono (Kd.Q_kept (Kd.Q_below hP hb) hk (fun k h1 h2 => h1.1.1.2 h2)) (fun k h => ⟨⟨h.1.1.1, hv k (Nat.lt_of_lt_of_le h.2 hb.size) h.1.1.2⟩, by rw [if_neg (show ¬ k = gq from by have := h.2; omega)]; exact h.1.2⟩)⟩
    · exact ⟨_, m, n, rfl, Kd.Q_mono (Kd.Q_kept hQ hk (fun k h1 h2 => hgu (by rw [← h1]; exact h2))) (fun k h => by subst h; exact ⟨⟨hok, hv _ hg2 hgu⟩, if_pos rfl⟩)⟩
end Go.Proofs.Ytplekidnlofioaa.Q
namespace Go.Proofs.Ytplekidnlofioaa.Q
open Go.RowKit Go.Proofs.YtplekidnlofioaaW.PrintWords Go.Proofs.YtplekidnlofioaaW.PrintLast Go.Proofs.YtplekidnlofioaaW.PrintMore
attribute [local go_sem] max2_int min2_int max_two min_two max_three min_three max_four min_four   -- for this text's walks alone
set_option linter.unusedVariables false
set_option linter.unusedSimpArgs false

/-! ### impl_SampleOk: function 128 -/
def impl_SampleOk.f (k : Nat) (a0_0 : ByteArray) (a0_1 : ByteArray) (a0_2 : Int) (a0_3 : Int) : Option (Bool) := (impl_NameOk.f k a0_0).bind fun t128 => (if t128 = true then ((impl_NameOk.f k a0_1).bind fun t129 => (if t129 = true then ((impl_isSize.f a0_2).bind fun t130 => (if t130 = true then ((impl_isTick.f a0_3).bind fun t131 => (some t131)) else (some false))) else (some false))) else (some false))
theorem impl_SampleOk.mono : ∀ a0 a1 a2 a3 k, LeO (impl_SampleOk.f k a0 a1 a2 a3) (impl_SampleOk.f (k + 1) a0 a1 a2 a3) := by
 intro a0 a1 a2 a3 k
 unfold impl_SampleOk.f
 repeat' first
  | (with_reducible exact impl_NameOk.mono _ _)
  | (with_reducible exact LeO.refl _)
  | (with_reducible exact LeO.none _)
  | (with_reducible refine LeO.ite ?_ ?_)
  | (with_reducible refine LeO.bind ?_ (fun _ => ?_))
  | exact impl_NameOk.mono _ _
  | exact LeO.none _
  | refine LeO.ite ?_ ?_
  | refine LeO.bind ?_ (fun _ => ?_)
set_option maxHeartbeats 8000000 in
set_option maxRecDepth 100000 in
theorem impl_SampleOk.calls (k : Nat) (a0_0 : ByteArray) (a0_1 : ByteArray) (a0_2 : Int) (a0_3 : Int) (r : Bool) (w : World) (h : impl_SampleOk.f k a0_0 a0_1 a0_2 a0_3 = some r) :
 Calls Try.prog 128 #[.agg #[.string a0_0, .string a0_1, .int .i64 a0_2, .int .i64 a0_3]] w fun e w' => e = .returned (.bool r) ∧ Below w.heap.size w w' := by
 have hu30 := Try.underlying30
 have HB := Aside0.mk (Below.refl w.heap.size w)
 have H : ((impl_NameOk.f k a0_0).bind fun t128 => (if t128 = true then ((impl_NameOk.f k a0_1).bind fun t129 => (if t129 = true then ((impl_isSize.f a0_2).bind fun t130 => (if t130 = true then ((impl_isTick.f a0_3).bind fun t131 => (some t131)) else (some false))) else (some false))) else (some false))) = some r := h
 clear h
 obtain ⟨t128, A20, H⟩ := bo H
 have A2 := Aside0.mk A20
 clear A20
 by_cases c3 : t128 = true
 · subst c3
   replace H := iT H
   obtain ⟨t129, A40, H⟩ := bo H
   have A4 := Aside0.mk A40
   clear A40
   by_cases c5 : t129 = true
   · subst c5
     replace H := iT H
     obtain ⟨t130, A60, H⟩ := bo H
     have A6 := Aside0.mk A60
     clear A60
     by_cases c7 : t130 = true
     · subst c7
       replace H := iT H
       obtain ⟨t131, A80, H⟩ := bo H
       have A8 := Aside0.mk A80
       clear A80
       obtain rfl := Option.some.inj H
       go_enter Try.func128, Try.ntmps128
       go_wp2_with (first | ((with_reducible refine gate_dst (N := 1) rfl ?_); refine bx 1 #[.string a0_0, .string a0_1, .int .i64 a0_2, .int .i64 a0_3] 30 ?_; intro gb127 hg w9 hbox hb; have BK127 := ak hbox; have GW127 := gs hg bl; have GE127 := gs hg bl; replace HB := ak (below_step bl hb); clear hb hbox hg; obtain ⟨hcz10_0, hcz10_1, hcz10_2, hcz10_3, hfz10_0, hfz10_1, hfz10_2, hfz10_3⟩ := cz4 BK127) | ((with_reducible refine gate_callee (f := 151) rfl ?_); refine gl (some 5) Try.func151 #[.string a0_0] ?_; (with_reducible refine (impl_NameOk.calls k a0_0 true _ A2.out).mono ?_); rintro e w' ⟨rfl, ⟨nd, rfl⟩⟩; refine ⟨_, rfl, ?_⟩) | (go_at_call 151; (with_reducible refine (impl_NameOk.calls k a0_1 true _ A4.out).mono ?_); rintro e w' ⟨rfl, ⟨nd, rfl⟩⟩) | (go_at_call 150; (with_reducible refine (impl_isSize.calls a0_2 true _ A6.out).mono ?_); rintro e w' ⟨rfl, ⟨nd, rfl⟩⟩) | (go_at_call 122; (with_reducible refine (impl_isTick.calls a0_3 t131 _ A8.out).mono ?_); rintro e w' ⟨rfl, ⟨nd, rfl⟩⟩))
       go_ret
       exact ⟨ew, bl1 GE127⟩
     · replace c7 := Bool.eq_false_iff.mpr c7
       subst c7
       replace H := iF H
       obtain rfl := Option.some.inj H
       go_enter Try.func128, Try.ntmps128
       go_wp2_with (first | ((with_reducible refine gate_dst (N := 1) rfl ?_); refine bx 1 #[.string a0_0, .string a0_1, .int .i64 a0_2, .int .i64 a0_3] 30 ?_; intro gb127 hg w11 hbox hb; have BK127 := ak hbox; have GW127 := gs hg bl; have GE127 := gs hg bl; replace HB := ak (below_step bl hb); clear hb hbox hg; obtain ⟨hcz12_0, hcz12_1, hcz12_2, hcz12_3, hfz12_0, hfz12_1, hfz12_2, hfz12_3⟩ := cz4 BK127) | ((with_reducible refine gate_callee (f := 151) rfl ?_); refine gl (some 5) Try.func151 #[.string a0_0] ?_; (with_reducible refine (impl_NameOk.calls k a0_0 true _ A2.out).mono ?_); rintro e w' ⟨rfl, ⟨nd, rfl⟩⟩; refine ⟨_, rfl, ?_⟩) | (go_at_call 151; (with_reducible refine (impl_NameOk.calls k a0_1 true _ A4.out).mono ?_); rintro e w' ⟨rfl, ⟨nd, rfl⟩⟩) | (go_at_call 150; (with_reducible refine (impl_isSize.calls a0_2 false _ A6.out).mono ?_); rintro e w' ⟨rfl, ⟨nd, rfl⟩⟩))
       go_ret
       exact ⟨ew, bl1 GE127⟩
   · replace c5 := Bool.eq_false_iff.mpr c5
     subst c5
     replace H := iF H
     obtain rfl := Option.some.inj H
     go_enter Try.func128, Try.ntmps128
     go_wp2_with (first | ((with_reducible refine gate_dst (N := 1) rfl ?_); refine bx 1 #[.string a0_0, .string a0_1, .int .i64 a0_2, .int .i64 a0_3] 30 ?_; intro gb127 hg w13 hbox hb; have BK127 := ak hbox; have GW127 := gs hg bl; have GE127 := gs hg bl; replace HB := ak (below_step bl hb); clear hb hbox hg; obtain ⟨hcz14_0, hcz14_1, hcz14_2, hcz14_3, hfz14_0, hfz14_1, hfz14_2, hfz14_3⟩ := cz4 BK127) | ((with_reducible refine gate_callee (f := 151) rfl ?_); refine gl (some 5) Try.func151 #[.string a0_0] ?_; (with_reducible refine (impl_NameOk.calls k a0_0 true _ A2.out).mono ?_); rintro e w' ⟨rfl, ⟨nd, rfl⟩⟩; refine ⟨_, rfl, ?_⟩) | (go_at_call 151; (with_reducible refine (impl_NameOk.calls k a0_1 false _ A4.out).mono ?_); rintro e w' ⟨rfl, ⟨nd, rfl⟩⟩))
     go_ret
     exact ⟨ew, bl1 GE127⟩
 · replace c3 := Bool.eq_false_iff.mpr c3
   subst c3
   replace H := iF H
   obtain rfl := Option.some.inj H
   go_enter Try.func128, Try.ntmps128
   go_wp2_with (first | ((with_reducible refine gate_dst (N := 1) rfl ?_); refine bx 1 #[.string a0_0, .string a0_1, .int .i64 a0_2, .int .i64 a0_3] 30 ?_; intro gb127 hg w15 hbox hb; have BK127 := ak hbox; have GW127 := gs hg bl; have GE127 := gs hg bl; replace HB := ak (below_step bl hb); clear hb hbox hg; obtain ⟨hcz16_0, hcz16_1, hcz16_2, hcz16_3, hfz16_0, hfz16_1, hfz16_2, hfz16_3⟩ := cz4 BK127) | ((with_reducible refine gate_callee (f := 151) rfl ?_); refine gl (some 5) Try.func151 #[.string a0_0] ?_; (with_reducible refine (impl_NameOk.calls k a0_0 false _ A2.out).mono ?_); rintro e w' ⟨rfl, ⟨nd, rfl⟩⟩; refine ⟨_, rfl, ?_⟩))
   go_ret
   exact ⟨ew, bl1 GE127⟩

end Go.Proofs.Ytplekidnlofioaa.Q
namespace Go.Proofs.Ytplekidnlofioaa.Q
open Go.RowKit Go.Proofs.YtplekidnlofioaaW.PrintWords Go.Proofs.YtplekidnlofioaaW.PrintLast
set_option linter.unusedVariables false
set_option linter.unusedSimpArgs false
def smpOk (a b : ByteArray) (v t : Int) : Bool := nameOk a && nameOk b && inB v 0 1000000000 && inB t 0 1000000000
theorem impl_SampleOk_ev (a b : ByteArray) (ha : a.size < 4611686018427387904) (hb : b.size < 4611686018427387904) (v t : Int) : Ev (fun k => impl_SampleOk.f k a b v t) (smpOk a b v t) := by
  unfold impl_SampleOk.f smpOk
  refine Ev.bind (impl_NameOk_ev a ha) ?_
  cases nameOk a
  · simp only [if_neg no_ft, Bool.false_and]; exact Ev.now _
  · simp only [if_true, Bool.true_and]
    refine Ev.bind (impl_NameOk_ev b hb) ?_
    cases nameOk b
    · simp only [if_neg no_ft, Bool.false_and]; exact Ev.now _
    · simp only [if_true, Bool.true_and, isSize_v, isTick_v, Option.bind_some]
      cases inB v 0 1000000000
      · simp only [if_neg no_ft, Bool.false_and]; exact Ev.now _
      · simp only [if_true, Bool.true_and]; exact Ev.now _
def ltS (a b : ByteArray) (s : S81) : Bool := decide (cmpS s.f0 s.f1 a b < 0)
def lastAt (ps : List S37) : Int := (ps.getD (ps.length - 1) z37).f0
def pushP (ps : List S37) (p : S37) : List S37 := (ps ++ [p]).drop (ps.length + 1 - 12)
def putV (l : List S81) (a b : ByteArray) (v t : Int) : List S81 × Int :=
  if (storeOk l && smpOk a b v t) = true then
    match l.dropWhile (ltS a b) with
    | s :: r => if cmpS s.f0 s.f1 a b = 0 then (if t ≤ lastAt s.f2 then (l, 1) else (l.takeWhile (ltS a b) ++ ⟨s.f0, s.f1, pushP s.f2 ⟨t, v⟩⟩ :: r, 0))
      else if l.length = 24 then (l, 2) else (l.takeWhile (ltS a b) ++ ⟨a, b, [⟨t, v⟩]⟩ :: s :: r, 0)
    | [] => if l.length = 24 then (l, 2) else (l.takeWhile (ltS a b) ++ [⟨a, b, [⟨t, v⟩]⟩], 0)
  else (l, 3)
theorem tw_split {α : Type} {p : α → Bool} : ∀ {pre suf : List α}, (∀ s ∈ pre, p s = true) → (∀ s r, suf = s :: r → p s = false) → (pre ++ suf).takeWhile p = pre ∧ (pre ++ suf).dropWhile p = suf
  | [], [], _, _ => ⟨rfl, rfl⟩
  | [], s :: r, _, h => by simp [List.takeWhile, List.dropWhile, h s r rfl]
  | x :: pre, suf, h1, h2 => by
    have := tw_split (pre := pre) (suf := suf) (fun s hs => h1 s (List.mem_cons_of_mem _ hs)) h2
    simp [List.takeWhile, List.dropWhile, h1 x List.mem_cons_self, this.1, this.2]
section
variable {l pre suf r : List S81} {s : S81} {a b : ByteArray} {v t : Int}
theorem putV_bad (h : (storeOk l && smpOk a b v t) = false) : putV l a b v t = (l, 3) := by unfold putV; rw [h]; rfl
theorem putV_suf (hok : (storeOk l && smpOk a b v t) = true) (hl : l = pre ++ suf) (h1 : ∀ s ∈ pre, cmpS s.f0 s.f1 a b < 0) (h2 : ∀ s r, suf = s :: r → ¬ cmpS s.f0 s.f1 a b < 0) :
    putV l a b v t = match suf with
      | s :: r => if cmpS s.f0 s.f1 a b = 0 then (if t ≤ lastAt s.f2 then (l, 1) else (pre ++ ⟨s.f0, s.f1, pushP s.f2 ⟨t, v⟩⟩ :: r, 0)) else if l.length = 24 then (l, 2) else (pre ++ ⟨a, b, [⟨t, v⟩]⟩ :: s :: r, 0)
      | [] => if l.length = 24 then (l, 2) else (pre ++ [⟨a, b, [⟨t, v⟩]⟩], 0) := by
  obtain ⟨e1, e2⟩ := tw_split (p := ltS a b) (pre := pre) (suf := suf) (fun s hs => decide_eq_true (h1 s hs)) (fun s r e => decide_eq_false (h2 s r e))
  rw [← hl] at e1 e2
  unfold putV
  rw [if_pos hok, e1, e2]
  cases suf <;> rfl
theorem putV_old (hok : (storeOk l && smpOk a b v t) = true) (hl : l = pre ++ s :: r) (h1 : ∀ s ∈ pre, cmpS s.f0 s.f1 a b < 0) (h2 : cmpS s.f0 s.f1 a b = 0) (h3 : t ≤ lastAt s.f2) : putV l a b v t = (l, 1) := by
  rw [putV_suf hok hl h1 (fun s' r' e => by injection e with e _; rw [← e, h2]; decide)]
  simp only [if_pos h2, if_pos h3]
theorem putV_done (hok : (storeOk l && smpOk a b v t) = true) (hl : l = pre ++ s :: r) (h1 : ∀ s ∈ pre, cmpS s.f0 s.f1 a b < 0) (h2 : cmpS s.f0 s.f1 a b = 0) (h3 : ¬ t ≤ lastAt s.f2) : putV l a b v t = (pre ++ ⟨s.f0, s.f1, pushP s.f2 ⟨t, v⟩⟩ :: r, 0) := by
  rw [putV_suf hok hl h1 (fun s' r' e => by injection e with e _; rw [← e, h2]; decide)]
  simp only [if_pos h2, if_neg h3]
theorem putV_full (hok : (storeOk l && smpOk a b v t) = true) (hl : l = pre ++ suf) (h1 : ∀ s ∈ pre, cmpS s.f0 s.f1 a b < 0) (h2 : ∀ s r, suf = s :: r → 0 < cmpS s.f0 s.f1 a b) (h3 : l.length = 24) : putV l a b v t = (l, 2) := by
  rw [putV_suf hok hl h1 (fun s' r' e => by have := h2 s' r' e; omega)]
  cases suf with
  | nil => simp only [if_pos h3]
  | cons s r =>
    have := h2 s r rfl
    simp only [if_pos h3, if_neg (show ¬ cmpS s.f0 s.f1 a b = 0 from by omega)]
theorem putV_ins (hok : (storeOk l && smpOk a b v t) = true) (hl : l = pre ++ suf) (h1 : ∀ s ∈ pre, cmpS s.f0 s.f1 a b < 0) (h2 : ∀ s r, suf = s :: r → 0 < cmpS s.f0 s.f1 a b) (h3 : ¬ l.length = 24) : putV l a b v t = (l.take pre.length ++ ⟨a, b, [⟨t, v⟩]⟩ :: l.drop pre.length, 0) := by
  rw [putV_suf hok hl h1 (fun s' r' e => by have := h2 s' r' e; omega)]
  have e1 : l.take pre.length = pre := by rw [hl]; exact List.take_left
  have e2 : l.drop pre.length = suf := by rw [hl]; exact List.drop_left
  rw [e1, e2]
  cases suf with
  | nil => simp only [if_neg h3]
  | cons s r =>
    have := h2 s r rfl
    simp only [if_neg h3, if_neg (show ¬ cmpS s.f0 s.f1 a b = 0 from by omega)]
end
end Go.Proofs.Ytplekidnlofioaa.Q
namespace Go.Proofs.Ytplekidnlofioaa.Q
open Go.RowKit Go.Proofs.YtplekidnlofioaaW.PrintWords Go.Proofs.YtplekidnlofioaaW.PrintLast Go.Proofs.YtplekidnlofioaaW.PrintMore
attribute [local go_sem] max2_int min2_int max_two min_two max_three min_three max_four min_four
set_option linter.unusedVariables false
set_option linter.unusedSimpArgs false
theorem pt_one {base g : Nat} {W : World} {a v : Int} (h : W.heap[g]? = some (.cells #[.int .i64 a, .int .i64 v] 37 (0, 0))) (hb : base ≤ g) : Kd.R k37 37 W base (fun k => k = g) (.slice (some ⟨g, 0, none⟩) 1 1) [⟨a, v⟩] :=
  pts_back (raw_in (X := [encP ⟨a, v⟩]) rfl hb h rfl (Nat.le_refl _) (by unfold maxLen; omega) rfl rfl (fun x hx => by
    rw [List.mem_singleton.1 hx]
    exact ⟨rfl, fun u hu => by simp only [encP, List.mem_cons, List.not_mem_nil, or_false] at hu; rcases hu with rfl | rfl <;> rfl⟩))
def impl_put.T4 : Bool × List (List Nat × List Nat) := (true, [([], []), ([], []), ([1], [1]), ([0, 2], [0, 2]), ([3], [3]), ([4], [4]), ([4], [4]), ([5, 6, 4], [4, 5, 6]), ([7, 4], [4, 7]), ([4], [4]), ([9, 4], [4, 9]), ([4], [4]), ([11, 4], [4, 11]), ([8, 10, 12, 4, 4], [4, 8, 10, 12]), ([13, 4], [4, 13]), ([4, 14], [4, 14])])
def impl_put.B4 : List Nat := [0, 0, 2, 7, 15, 31, 31, 127, 255, 31, 543, 31, 2079, 8191, 16383, 32767]
theorem impl_put.tab4 : rtab .any (opsOf Try.f64 4) = impl_put.T4 := by kernel_rfl
theorem impl_put.bits4 : waitsOk impl_put.T4.2 impl_put.B4 = true := by kernel_rfl
def impl_put.T7 : Bool × List (List Nat × List Nat) := (true, [([], []), ([], []), ([1], [1]), ([0, 2], [0, 2]), ([3], [3]), ([4], [4]), ([4], [4]), ([5, 6, 4], [4, 5, 6]), ([7, 4], [4, 7]), ([4], [4]), ([9, 4], [4, 9]), ([4], [4]), ([11, 4], [4, 11]), ([8, 10, 12, 4, 4], [4, 8, 10, 12]), ([13, 4], [4, 13]), ([4, 14], [4, 14])])
def impl_put.B7 : List Nat := [0, 0, 2, 7, 15, 31, 31, 127, 255, 31, 543, 31, 2079, 8191, 16383, 32767]
theorem impl_put.tab7 : rtab .any (opsOf Try.f64 7) = impl_put.T7 := by kernel_rfl
theorem impl_put.bits7 : waitsOk impl_put.T7.2 impl_put.B7 = true := by kernel_rfl
def impl_put.T9 : Bool × List (List Nat × List Nat) := (true, [([], []), ([], []), ([1], [1]), ([2], [2]), ([0, 3], [0, 3]), ([4], [4]), ([5], [5]), ([], []), ([7], [7]), ([6, 8], [6, 8])])
def impl_put.B9 : List Nat := [0, 0, 2, 6, 15, 31, 63, 0, 128, 511]
theorem impl_put.tab9 : rtab .any (opsOf Try.f64 9) = impl_put.T9 := by kernel_rfl
theorem impl_put.bits9 : waitsOk impl_put.T9.2 impl_put.B9 = true := by kernel_rfl
set_option maxHeartbeats 16000000 in
set_option maxRecDepth 100000 in
theorem impl_put_calls (P0_ : Nat → Prop) (u : Value) (l : List S81) (a b : ByteArray) (vl at_ : Int) (w0 w : World) (hB : Below w0.heap.size w0 w) (ho : Kd.S kq 81 w w0.heap.size P0_ u l) (hl : l.length ≤ 1048576) (hf : ∀ s ∈ l, s.f2.length ≤ 1048576) (hfit : ∀ s ∈ l, fitS s) (ha : a.size < 4611686018427387904) (hb : b.size < 4611686018427387904) :
    Calls Try.prog 64 #[u, .agg #[.string a, .string b, .int .i64 vl, .int .i64 at_]] w fun e w' => ∃ v : Value, e = .returned (.tuple #[v, .int .i64 (putV l a b vl at_).2]) ∧ Kd.S kq 81 w' w0.heap.size (fun k => P0_ k ∨ w.heap.size ≤ k) v (putV l a b vl at_).1 ∧ Below w0.heap.size w0 w' ∧ Kept w w' P0_ := by
  obtain ⟨k1, hk1⟩ := rounds_of (impl_StoreOk_ev l (by omega) hfit)
  obtain ⟨k2, hk2⟩ := rounds_of (impl_SampleOk_ev a b ha hb vl at_)
  obtain ⟨Ao, co, eo⟩ := Kd.S_slice ho
  subst eo
  have HO := ak (Kd.S_mono ho (ok' := fun k => P0_ k ∨ w.heap.size ≤ k) (fun k hk => .inl hk))
  have HB := ak hB
  have HLX := ak hl
  have HPF := ak hf
  clear hB ho hl hf hfit ha hb
  cases hs : storeOk l with
  | false =>
    rw [hs] at hk1
    have K1 := ak hk1
    rw [putV_bad (by rw [hs]; rfl)]
    clear hk1 hk2 hs
    go_enter Try.func64, Try.ntmps64
    go_wp2_with (first | ((with_reducible refine gate_dst (N := 3) rfl ?_); refine bx 3 #[.string a, .string b, .int .i64 vl, .int .i64 at_] 30 ?_; intro gb hg w1 hbox hb; have GBW := ak (show w.heap.size ≤ gb from by rw [hg]; exact Nat.le_refl _); have ST := ak (show PutS P0_ w0 w gb #[.string a, .string b, .int .i64 vl, .int .i64 at_] (.slice Ao l.length co) l w1 from ⟨hbox, Kd.S_below HO.out hb, below_step HB.out hb, Kept.below (Kept.refl w P0_) hb⟩); clear hb hbox hg) | ((with_reducible refine gate_dst (N := 10) rfl ?_); refine gl (some 10) Try.func49 #[.slice Ao l.length co] ?_; (refine (impl_StoreOk.calls _ _ _ l _ _ ?sa ?sb K1.out).mono ?_); (case sa => exact kq_C (Kd.S_reads' ST.out.2.1).2.2); (case sb => exact (Kd.S_reads' ST.out.2.1).2.1); rintro e w2 ⟨rfl, hb⟩; refine ⟨_, rfl, ?_⟩; replace ST := ak (putS_below ST.out hb); clear hb; have BK := ak ST.out.1; obtain ⟨hcz_0, hcz_1, hcz_2, hcz_3, hfz_0, hfz_1, hfz_2, hfz_3⟩ := cz4 BK))
    go_ret2
    exact ⟨_, rfl, ST.out.2.1, ST.out.2.2.1, ST.out.2.2.2⟩
  | true =>
    rw [hs] at hk1
    have K1 := ak hk1
    cases hm : smpOk a b vl at_ with
    | false =>
      rw [hm] at hk2
      have K2 := ak hk2
      rw [putV_bad (by rw [hs, hm]; rfl)]
      clear hk1 hk2 hs hm
      go_enter Try.func64, Try.ntmps64
      go_wp2_with (first | ((with_reducible refine gate_dst (N := 3) rfl ?_); refine bx 3 #[.string a, .string b, .int .i64 vl, .int .i64 at_] 30 ?_; intro gb hg w1 hbox hb; have GBW := ak (show w.heap.size ≤ gb from by rw [hg]; exact Nat.le_refl _); have ST := ak (show PutS P0_ w0 w gb #[.string a, .string b, .int .i64 vl, .int .i64 at_] (.slice Ao l.length co) l w1 from ⟨hbox, Kd.S_below HO.out hb, below_step HB.out hb, Kept.below (Kept.refl w P0_) hb⟩); clear hb hbox hg) | ((with_reducible refine gate_dst (N := 10) rfl ?_); refine gl (some 10) Try.func49 #[.slice Ao l.length co] ?_; (refine (impl_StoreOk.calls _ _ _ l _ _ ?sa ?sb K1.out).mono ?_); (case sa => exact kq_C (Kd.S_reads' ST.out.2.1).2.2); (case sb => exact (Kd.S_reads' ST.out.2.1).2.1); rintro e w2 ⟨rfl, hb⟩; refine ⟨_, rfl, ?_⟩; replace ST := ak (putS_below ST.out hb); clear hb; have BK := ak ST.out.1; obtain ⟨hcz_0, hcz_1, hcz_2, hcz_3, hfz_0, hfz_1, hfz_2, hfz_3⟩ := cz4 BK) | (go_at_call 128; (refine (impl_SampleOk.calls _ _ _ _ _ _ _ K2.out).mono ?_); rintro e w3 ⟨rfl, hb⟩; replace ST := ak (putS_below ST.out hb); clear hb hcz_0 hcz_1 hcz_2 hcz_3 hfz_0 hfz_1 hfz_2 hfz_3 BK; have BK := ak ST.out.1; obtain ⟨hcz_0, hcz_1, hcz_2, hcz_3, hfz_0, hfz_1, hfz_2, hfz_3⟩ := cz4 BK))
      go_ret2
      exact ⟨_, rfl, ST.out.2.1, ST.out.2.2.1, ST.out.2.2.2⟩
    | true =>
      rw [hm] at hk2
      have K2 := ak hk2
      have OK := ak (show (storeOk l && smpOk a b vl at_) = true from by rw [hs, hm]; rfl)
      have SOK := ak (storeOk_all hs)
      clear hk1 hk2 hs hm
      go_enter Try.func64, Try.ntmps64
      go_wp2_with (first | ((with_reducible refine gate_dst (N := 3) rfl ?_); refine bx 3 #[.string a, .string b, .int .i64 vl, .int .i64 at_] 30 ?_; intro gb hg w1 hbox hb; have GBW := ak (show w.heap.size ≤ gb from by rw [hg]; exact Nat.le_refl _); have ST := ak (show PutS P0_ w0 w gb #[.string a, .string b, .int .i64 vl, .int .i64 at_] (.slice Ao l.length co) l w1 from ⟨hbox, Kd.S_below HO.out hb, below_step HB.out hb, Kept.below (Kept.refl w P0_) hb⟩); clear hb hbox hg) | ((with_reducible refine gate_dst (N := 10) rfl ?_); refine gl (some 10) Try.func49 #[.slice Ao l.length co] ?_; (refine (impl_StoreOk.calls _ _ _ l _ _ ?sa ?sb K1.out).mono ?_); (case sa => exact kq_C (Kd.S_reads' ST.out.2.1).2.2); (case sb => exact (Kd.S_reads' ST.out.2.1).2.1); rintro e w2 ⟨rfl, hb⟩; refine ⟨_, rfl, ?_⟩; replace ST := ak (putS_below ST.out hb); clear hb; have BK := ak ST.out.1; obtain ⟨hcz_0, hcz_1, hcz_2, hcz_3, hfz_0, hfz_1, hfz_2, hfz_3⟩ := cz4 BK) | (go_at_call 128; (refine (impl_SampleOk.calls _ _ _ _ _ _ _ K2.out).mono ?_); rintro e w3 ⟨rfl, hb⟩; replace ST := ak (putS_below ST.out hb); clear hb hcz_0 hcz_1 hcz_2 hcz_3 hfz_0 hfz_1 hfz_2 hfz_3 BK; have BK := ak ST.out.1; obtain ⟨hcz_0, hcz_1, hcz_2, hcz_3, hfz_0, hfz_1, hfz_2, hfz_3⟩ := cz4 BK))
      clear BK hcz_0 hcz_1 hcz_2 hcz_3 hfz_0 hfz_1 hfz_2 hfz_3 K1 K2 HO HB
      go_loopg [6] l.length (fun kn v6 w' => ∃ (pre suf : List S81) (x6 : Int), v6 = .int .i64 x6 ∧ Aside0 (l = pre ++ suf ∧ x6 = (pre.length : Int) ∧ suf.length ≤ kn ∧ ∀ s ∈ pre, cmpS s.f0 s.f1 a b < 0) ∧ Aside0 (PutS P0_ w0 w gb #[.string a, .string b, .int .i64 vl, .int .i64 at_] (.slice Ao l.length co) l w'))
      case atStart => exact ⟨[], l, 0, rfl, ⟨rfl, rfl, Nat.le_refl _, fun _ h => by cases h⟩, ⟨ST.out⟩⟩
      case round =>
        clear ST
        obtain ⟨pre, suf, x6, rfl, HA, ST⟩ := hrel
        cases suf with
        | nil =>
          have HS := ak (show ∀ s r, ([] : List S81) = s :: r → 0 < cmpS s.f0 s.f1 a b from fun s r h => by cases h)
          have c1 : decide (x6 < (l.length : Int)) = false := decide_eq_false (by rw [HA.out.2.1, HA.out.1, List.append_nil]; omega)
          go_wp2
          replace ST := ak (putS_below ST.out (below_drew (Below.refl _ _)))
          refine start_ (n := 16) (S := fun w' => True) (ds := []) (bitsA 16 0) (by kernel_rfl) rfl rfl trivial (fun hHeld => ?_)
          refine with_tabW impl_put.tab4 impl_put.bits4 (fun HT_ HW_ => ?_)
          generalize wr.drew = wd1 at ST hHeld ⊢
          refine pu 0 (some 18) (bitsA 16 1) ?_
          refine pu 1 (some 19) (bitsA 16 3) ?_
          refine pu 2 (some 20) (bitsA 16 7) ?_
          refine pu 3 (some 21) (bitsA 16 15) ?_
          refine pu 4 (some 22) (bitsA 16 31) ?_
          refine pure_ (i := 5) (N := some 23) (v := undef) (a' := ?_) (bitsA 16 63) rfl rfl (any_of HT_.out (by kernel_rfl)) (fun _ _ _ h => h) (Or.inr ⟨by rfl, rfl⟩) ?_ ?_; rotate_left; (· (simp only [Act.put, List.setIfInBounds_toArray, List.set_cons_zero, List.set_cons_succ, i64_w, i32_w]; rfl))
          refine pure_ (i := 6) (N := some 24) (v := undef) (a' := ?_) (bitsA 16 127) rfl rfl (any_of HT_.out (by kernel_rfl)) (fun _ _ _ h => h) (Or.inr ⟨by rfl, rfl⟩) ?_ ?_; rotate_left; (· (simp only [Act.put, List.setIfInBounds_toArray, List.set_cons_zero, List.set_cons_succ, i64_w, i32_w]; rfl))
          refine pure_ (i := 7) (N := some 25) (v := undef) (a' := ?_) (bitsA 16 255) rfl rfl (any_of HT_.out (by kernel_rfl)) (fun _ _ _ h => h) (Or.inr ⟨by rfl, rfl⟩) ?_ ?_; rotate_left; (· (simp only [Act.put, List.setIfInBounds_toArray, List.set_cons_zero, List.set_cons_succ, i64_w, i32_w]; rfl))
          refine pure_ (i := 8) (N := some 26) (v := undef) (a' := ?_) (bitsA 16 511) rfl rfl (any_of HT_.out (by kernel_rfl)) (fun _ _ _ h => h) (Or.inr ⟨by rfl, rfl⟩) ?_ ?_; rotate_left; (· (simp only [Act.put, List.setIfInBounds_toArray, List.set_cons_zero, List.set_cons_succ, i64_w, i32_w]; rfl))
          refine pure_ (i := 9) (N := some 27) (v := undef) (a' := ?_) (bitsA 16 1023) rfl rfl (any_of HT_.out (by kernel_rfl)) (fun _ _ _ h => h) (Or.inr ⟨by rfl, rfl⟩) ?_ ?_; rotate_left; (· (simp only [Act.put, List.setIfInBounds_toArray, List.set_cons_zero, List.set_cons_succ, i64_w, i32_w]; rfl))
          refine pure_ (i := 10) (N := some 28) (v := undef) (a' := ?_) (bitsA 16 2047) rfl rfl (any_of HT_.out (by kernel_rfl)) (fun _ _ _ h => h) (Or.inr ⟨by rfl, rfl⟩) ?_ ?_; rotate_left; (· (simp only [Act.put, List.setIfInBounds_toArray, List.set_cons_zero, List.set_cons_succ, i64_w, i32_w]; rfl))
          refine pure_ (i := 11) (N := some 29) (v := undef) (a' := ?_) (bitsA 16 4095) rfl rfl (any_of HT_.out (by kernel_rfl)) (fun _ _ _ h => h) (Or.inr ⟨by rfl, rfl⟩) ?_ ?_; rotate_left; (· (simp only [Act.put, List.setIfInBounds_toArray, List.set_cons_zero, List.set_cons_succ, i64_w, i32_w]; rfl))
          refine pure_ (i := 12) (N := some 30) (v := undef) (a' := ?_) (bitsA 16 8191) rfl rfl (any_of HT_.out (by kernel_rfl)) (fun _ _ _ h => h) (Or.inr ⟨by rfl, rfl⟩) ?_ ?_; rotate_left; (· (simp only [Act.put, List.setIfInBounds_toArray, List.set_cons_zero, List.set_cons_succ, i64_w, i32_w]; rfl))
          refine pure_ (i := 13) (N := some 31) (v := undef) (a' := ?_) (bitsA 16 16383) rfl rfl (any_of HT_.out (by kernel_rfl)) (fun _ _ _ h => h) (Or.inr ⟨by rfl, rfl⟩) ?_ ?_; rotate_left; (· (simp only [Act.put, List.setIfInBounds_toArray, List.set_cons_zero, List.set_cons_succ, i64_w, i32_w]; rfl))
          refine pure_ (i := 14) (N := some 32) (v := undef) (a' := ?_) (bitsA 16 32767) rfl rfl (any_of HT_.out (by kernel_rfl)) (fun _ _ _ h => h) (Or.inr ⟨by rfl, rfl⟩) ?_ ?_; rotate_left; (· (simp only [Act.put, List.setIfInBounds_toArray, List.set_cons_zero, List.set_cons_succ, i64_w, i32_w]; rfl))
          refine pu 15 (some 33) (bitsA 16 65535) ?_
          refine done_ (done_of HT_.out (by kernel_rfl)) ?_
          have BK := ak ST.out.1
          obtain ⟨hcz_0, hcz_1, hcz_2, hcz_3, hfz_0, hfz_1, hfz_2, hfz_3⟩ := cz4 BK
          go_wp2_with (first | ((with_reducible refine gate_dst (N := 7) rfl ?_); refine bx 7 #[.int .i64 0, .int .i64 0] 37 ?_; intro gp hg wp hbox hb; have BP := ak hbox; have GP := ak (show wd1.heap.size ≤ gp from by rw [hg]; exact Nat.le_refl _); have HW := ak hb; clear hb hbox hg; obtain ⟨hcp_0, hcp_1, hfp_0, hfp_1⟩ := cz2 BP) | ((with_reducible refine gate_store (t := 37) (p := 7) rfl ?_); refine store_event (t := 37) (p := 7) (v := ?vo_p) (w1 := ((wp.setCell ⟨gp, 0, none⟩ (.int .i64 at_)).setCell ⟨gp, 1, none⟩ (.int .i64 vl))) ?hg ?ho ?hn ?hr ?_; (case ho => rfl); (case hg => rfl); (case hn => rfl); (case hr => first | (go_simp; done) | (go_simp; rfl)); intro wq hw; have hb : Below wd1.heap.size wd1 wq := (by rw [hw]; exact below_set (below_set HW.out GP.out) GP.out); replace ST := ak (putS_below ST.out hb); have BQ := ak (show wq.heap[gp]? = some (.cells #[.int .i64 at_, .int .i64 vl] 37 (0, 0)) from by rw [hw]; exact blk_put (cs := #[.int .i64 at_, .int .i64 0]) (blk_put (cs := #[.int .i64 0, .int .i64 0]) BP.out 0 _ rfl) 1 _ rfl); skip; clear hb hw hcp_0 hcp_1 hfp_0 hfp_1 BP GP HW BK hcz_0 hcz_1 hcz_2 hcz_3 hfz_0 hfz_1 hfz_2 hfz_3))
          replace ST := ak (putS_below ST.out (below_drew (Below.refl _ _)))
          replace BQ := ak (blk_drew BQ.out)
          refine start_ (n := 16) (S := fun w' => True) (ds := []) (bitsA 16 0) (by kernel_rfl) rfl rfl trivial (fun hHeld => ?_)
          refine with_tabW impl_put.tab7 impl_put.bits7 (fun HT_ HW_ => ?_)
          generalize wq.drew = wd2 at ST BQ hHeld ⊢
          refine pu 0 (some 41) (bitsA 16 1) ?_
          refine pu 1 (some 42) (bitsA 16 3) ?_
          refine pu 2 (some 43) (bitsA 16 7) ?_
          refine pu 3 (some 44) (bitsA 16 15) ?_
          refine pu 4 (some 45) (bitsA 16 31) ?_
          refine pure_ (i := 5) (N := some 46) (v := undef) (a' := ?_) (bitsA 16 63) rfl rfl (any_of HT_.out (by kernel_rfl)) (fun _ _ _ h => h) (Or.inr ⟨by rfl, rfl⟩) ?_ ?_; rotate_left; (· (simp only [Act.put, List.setIfInBounds_toArray, List.set_cons_zero, List.set_cons_succ, i64_w, i32_w]; rfl))
          refine pure_ (i := 6) (N := some 47) (v := undef) (a' := ?_) (bitsA 16 127) rfl rfl (any_of HT_.out (by kernel_rfl)) (fun _ _ _ h => h) (Or.inr ⟨by rfl, rfl⟩) ?_ ?_; rotate_left; (· (simp only [Act.put, List.setIfInBounds_toArray, List.set_cons_zero, List.set_cons_succ, i64_w, i32_w]; rfl))
          refine pure_ (i := 7) (N := some 48) (v := undef) (a' := ?_) (bitsA 16 255) rfl rfl (any_of HT_.out (by kernel_rfl)) (fun _ _ _ h => h) (Or.inr ⟨by rfl, rfl⟩) ?_ ?_; rotate_left; (· (simp only [Act.put, List.setIfInBounds_toArray, List.set_cons_zero, List.set_cons_succ, i64_w, i32_w]; rfl))
          refine pure_ (i := 8) (N := some 49) (v := undef) (a' := ?_) (bitsA 16 511) rfl rfl (any_of HT_.out (by kernel_rfl)) (fun _ _ _ h => h) (Or.inr ⟨by rfl, rfl⟩) ?_ ?_; rotate_left; (· (simp only [Act.put, List.setIfInBounds_toArray, List.set_cons_zero, List.set_cons_succ, i64_w, i32_w]; rfl))
          refine pure_ (i := 9) (N := some 50) (v := undef) (a' := ?_) (bitsA 16 1023) rfl rfl (any_of HT_.out (by kernel_rfl)) (fun _ _ _ h => h) (Or.inr ⟨by rfl, rfl⟩) ?_ ?_; rotate_left; (· (simp only [Act.put, List.setIfInBounds_toArray, List.set_cons_zero, List.set_cons_succ, i64_w, i32_w]; rfl))
          refine pure_ (i := 10) (N := some 51) (v := undef) (a' := ?_) (bitsA 16 2047) rfl rfl (any_of HT_.out (by kernel_rfl)) (fun _ _ _ h => h) (Or.inr ⟨by rfl, rfl⟩) ?_ ?_; rotate_left; (· (simp only [Act.put, List.setIfInBounds_toArray, List.set_cons_zero, List.set_cons_succ, i64_w, i32_w]; rfl))
          refine pure_ (i := 11) (N := some 52) (v := undef) (a' := ?_) (bitsA 16 4095) rfl rfl (any_of HT_.out (by kernel_rfl)) (fun _ _ _ h => h) (Or.inr ⟨by rfl, rfl⟩) ?_ ?_; rotate_left; (· (simp only [Act.put, List.setIfInBounds_toArray, List.set_cons_zero, List.set_cons_succ, i64_w, i32_w]; rfl))
          refine pure_ (i := 12) (N := some 53) (v := undef) (a' := ?_) (bitsA 16 8191) rfl rfl (any_of HT_.out (by kernel_rfl)) (fun _ _ _ h => h) (Or.inr ⟨by rfl, rfl⟩) ?_ ?_; rotate_left; (· (simp only [Act.put, List.setIfInBounds_toArray, List.set_cons_zero, List.set_cons_succ, i64_w, i32_w]; rfl))
          refine pure_ (i := 13) (N := some 54) (v := undef) (a' := ?_) (bitsA 16 16383) rfl rfl (any_of HT_.out (by kernel_rfl)) (fun _ _ _ h => h) (Or.inr ⟨by rfl, rfl⟩) ?_ ?_; rotate_left; (· (simp only [Act.put, List.setIfInBounds_toArray, List.set_cons_zero, List.set_cons_succ, i64_w, i32_w]; rfl))
          refine pure_ (i := 14) (N := some 55) (v := undef) (a' := ?_) (bitsA 16 32767) rfl rfl (any_of HT_.out (by kernel_rfl)) (fun _ _ _ h => h) (Or.inr ⟨by rfl, rfl⟩) ?_ ?_; rotate_left; (· (simp only [Act.put, List.setIfInBounds_toArray, List.set_cons_zero, List.set_cons_succ, i64_w, i32_w]; rfl))
          refine pu 15 (some 56) (bitsA 16 65535) ?_
          refine done_ (done_of HT_.out (by kernel_rfl)) ?_
          clear c1
          by_cases hf24 : l.length = 24
          · have hf1 : ((l.length : Int) == 24) = true := beq_iff_eq.2 (by omega)
            have hf2 : (l.length : Int) = 24 := by omega
            have EV := ak (putV_full OK.out HA.out.1 HA.out.2.2.2 HS.out hf24)
            clear hf24
            go_wp2
            rw [EV.out]
            go_ret2
            exact ⟨_, rfl, ST.out.2.1, ST.out.2.2.1, ST.out.2.2.2⟩
          · have hf1 : ((l.length : Int) == 24) = false := beq_eq_false_iff_ne.2 (by omega)
            have hf2 : ¬ ((l.length : Int) = 24) := by omega
            have EV := ak (putV_ins OK.out HA.out.1 HA.out.2.2.2 HS.out hf24)
            clear hf24
            obtain ⟨f, Z, hZ1, hZt, hZR, hZC⟩ := Sq_split ST.out.2.1
            have Z1 := ak hZ1
            have Zt := ak hZt
            have ZR := ak hZR
            have ZC := ak hZC
            have ZL := ak (Kd.S_lt ST.out.2.1)
            have ZN := ak (show (Z.map (·.2.1)).length = l.length from by rw [List.length_map, ← hZ1, List.length_map])
            have HX6 := ak HA.out.2.1
            have HLE := ak (show pre.length ≤ l.length from by rw [HA.out.1, List.length_append]; omega)
            have BK := ak ST.out.1
            obtain ⟨hcz_0, hcz_1, hcz_2, hcz_3, hfz_0, hfz_1, hfz_2, hfz_3⟩ := cz4 BK
            obtain ⟨hcq_0, hcq_1, hfq_0, hfq_1⟩ := cz2 BQ
            clear hZ1 hZt hZR hZC
            go_wp2_with (first | ((with_reducible refine gate_dst (N := 99) rfl ?_); refine bsl 99 #[.int .i64 at_, .int .i64 vl] 37 1 ?_; intro gq hg wx hbox hb; have BG := ak hbox; have GQ := ak (show wd2.heap.size ≤ gq from by rw [hg]; exact Nat.le_refl _); have HX := ak hb; clear hb hbox hg) | ((with_reducible refine gate_dst (N := 101) rfl ?_); refine bsl 101 #[.string a, .string b, .slice (some ⟨gq, 0, none⟩) 1 1] 81 1 ?_; intro gs hg wy hbox hb; have BS := ak hbox; have GS := ak (show wx.heap.size ≤ gs from by rw [hg]; exact Nat.le_refl _); replace BG := ak (blk_below BG.out hb); have HY := ak (below_step HX.out hb); clear hb hbox hg) | ((with_reducible refine gate_dst (N := 102) rfl ?_); refine gl (some 102) Try.func129 #[.slice Ao l.length co, .int .i64 x6, .slice (some ⟨gs, 0, none⟩) 1 1] ?_; (rw [HX6.out]; refine (insertS (Z.map (·.2.1)) pre.length (.string a) (.string b) (.slice (some ⟨gq, 0, none⟩) 1 1) gs (fun k => P0_ k ∨ w.heap.size ≤ k) (.slice Ao l.length co) w0 wy ?s1 ?s2 BS.out ?s3 ?s4 ?s5 ?s6 ?s7).mono ?_); (case s1 => exact below_step ST.out.2.2.1 HY.out); (case s2 => exact Kd.R_below ZR.out HY.out); (case s3 => exact fun h => by have h1 := ZL.out gs h.symm; have h2 := GS.out; have h3 := HX.out.size; omega); (case s4 => exact fun u hu => by simp only [List.mem_cons, List.not_mem_nil, or_false] at hu; rcases hu with rfl | rfl | rfl <;> rfl); (case s5 => rw [ZN.out]; exact HLE.out); (case s6 => rw [ZN.out]; exact HLX.out); (case s7 => exact fun k hk => .inr (Nat.le_trans (Nat.le_trans ST.out.2.2.2.1 HY.out.size) hk)); rintro e w' ⟨v', rfl, hR', ho', hb', hk'⟩; refine ⟨_, rfl, ?_⟩; have HF := ak (ins_join (s := ⟨a, b, [⟨at_, vl⟩]⟩) Z1.out Zt.out ZC.out ZL.out HY.out GQ.out (blk_lt BG.out) (Kd.Q_of_R (pt_one BG.out (Nat.le_trans ST.out.2.2.1.size GQ.out))) (.inr (Nat.le_trans ST.out.2.2.2.1 GQ.out)) hR' ho' hk'); have HFB := ak hb'; have HFK := ak (Kept.then_ (Kept.below ST.out.2.2.2 HY.out) hk' (fun k hk => (Kd.S_R ST.out.2.1).1 k hk.symm)); clear hR' ho' hb' hk'))
            rw [EV.out]
            go_ret2
            exact ⟨_, rfl, HF.out, HFB.out, HFK.out⟩
        | cons s suf =>
          obtain ⟨g, cap, eo, gb_, gl_, cl, HG⟩ := Kd.S_form ST.out.2.1 (by rw [HA.out.1, List.length_append, List.length_cons]; omega)
          injection eo with e1_ _ e3_
          subst e1_ e3_
          have GB := ak gb_
          have hlen : l.length = pre.length + (suf.length + 1) := by rw [HA.out.1, List.length_append, List.length_cons]
          have pz : 0 ≤ x6 := by rw [HA.out.2.1]; omega
          have qz : x6 < (l.length : Int) := by rw [HA.out.2.1]; omega
          have PZ := ak pz
          have QZ := ak qz
          have hget : l.getD x6.toNat z81 = s := by rw [show x6.toNat = pre.length from by rw [HA.out.2.1]; omega, HA.out.1]; exact getD_mid _ _ _ _
          have G1 := ak hget
          obtain ⟨r, hr⟩ : ∃ r, r = cmpS s.f0 s.f1 a b := ⟨_, rfl⟩
          obtain ⟨k3, hk3⟩ := rounds_of (impl_compare_ev s.f0 s.f1 s.f2 a b)
          rw [← hr] at hk3
          have KC := ak hk3
          have RR := ak hr
          have c1 : decide (x6 < (l.length : Int)) = true := decide_eq_true qz
          obtain ⟨x7, hx7⟩ : ∃ y, y = x6 + 1 := ⟨_, rfl⟩
          have w67 : IntKind.i64.wrap (x6 + 1) = x7 := (i64_w _).trans (by have := HLX.out; rw [hx7]; unfold wrap64; omega)
          have X7 := ak (show x7 = ((pre ++ [s]).length : Int) ∧ l = (pre ++ [s]) ++ suf from ⟨by rw [List.length_append, List.length_singleton, hx7, HA.out.2.1]; omega, by rw [HA.out.1]; simp⟩)
          have SLN := ak (serOk_len (SOK.out s (by rw [HA.out.1]; exact List.mem_append_right _ List.mem_cons_self)))
          replace pz := eq_true pz
          replace qz := eq_true qz
          clear gb_ gl_ cl HG hget hr hk3 hx7 hlen
          obtain ⟨oki, c_, hcl, hM, hcc, hfr, hoki, hH⟩ := Kd.S_elem ST.out.2.1 z81 x6 PZ.out QZ.out
          rw [G1.out] at hM
          obtain ⟨v2, rfl, hQ⟩ := kq_openM hM
          obtain ⟨A2, c2, ev, hQl, hQC⟩ := Kd.Q_reads hQ
          subst ev
          have EC0 := ak (show wr.cell? ⟨g, x6.toNat * 3, none⟩ = some (.string s.f0) from hcc 0 _ rfl)
          have EC1 := ak (show wr.cell? ⟨g, x6.toNat * 3 + 1, none⟩ = some (.string s.f1) from hcc 1 _ rfl)
          have EC2 := ak (show wr.cell? ⟨g, x6.toNat * 3 + 2, none⟩ = some (.slice A2 s.f2.length c2) from hcc 2 _ rfl)
          have EQ := ak (And.intro hQl hQC)
          clear hcl hM hcc hfr hoki hH hQ hQl hQC
          by_cases hneg : r < 0
          · have t2 : decide (r < 0) = true := decide_eq_true hneg
            have HN := ak hneg
            clear hneg
            go_wp2
            replace ST := ak (putS_below ST.out (below_drew (Below.refl _ _)))
            have BK := ak ST.out.1
            replace EC0 := ak (show wr.drew.cell? _ = _ from EC0.out)
            replace EC1 := ak (show wr.drew.cell? _ = _ from EC1.out)
            replace EC2 := ak (show wr.drew.cell? _ = _ from EC2.out)
            replace EQ := ak (And.intro EQ.out.1 (Kd.C_drew EQ.out.2))
            refine start_ (n := 16) (S := fun w' => w'.cell? ⟨g, x6.toNat * 3, none⟩ = some (.string s.f0) ∧ w'.cell? ⟨g, x6.toNat * 3 + 1, none⟩ = some (.string s.f1) ∧ w'.cell? ⟨g, x6.toNat * 3 + 2, none⟩ = some (.slice A2 s.f2.length c2) ∧ w'.cell? ⟨gb, 0, none⟩ = some (.string a) ∧ w'.cell? ⟨gb, 1, none⟩ = some (.string b)) (ds := []) (bitsA 16 0) (by kernel_rfl) rfl rfl ⟨EC0.out, EC1.out, EC2.out, bc BK 0, bc BK 1⟩ (fun hHeld => ?_)
            refine with_tabW impl_put.tab4 impl_put.bits4 (fun HT_ HW_ => ?_)
            generalize wr.drew = wd4 at ST BK EC0 EC1 EC2 EQ hHeld ⊢
            refine pu 0 (some 18) (bitsA 16 1) ?_
            refine pu 1 (some 19) (bitsA 16 3) ?_
            refine pu 2 (some 20) (bitsA 16 7) ?_
            refine pu 3 (some 21) (bitsA 16 15) ?_
            refine pu 4 (some 22) (bitsA 16 31) ?_
            refine pu 5 (some 23) (bitsA 16 63) ?_
            refine pu 6 (some 24) (bitsA 16 127) ?_
            refine pu 7 (some 25) (bitsA 16 255) ?_
            refine tk 8 (some 26) (bitsA 16 511) hHeld ?_ (hy := Or.inl ⟨by rfl, by rintro w' ⟨s0, s1, s2, s3, s4⟩; go_simp; with_reducible rfl⟩)
            refine pu 9 (some 27) (bitsA 16 1023) ?_
            refine tk 10 (some 28) (bitsA 16 2047) hHeld ?_ (hy := Or.inl ⟨by rfl, by rintro w' ⟨s0, s1, s2, s3, s4⟩; go_simp; with_reducible rfl⟩)
            refine pu 11 (some 29) (bitsA 16 4095) ?_
            refine tk 12 (some 30) (bitsA 16 8191) hHeld ?_ (hy := Or.inl ⟨by rfl, by rintro w' ⟨s0, s1, s2, s3, s4⟩; go_simp; with_reducible rfl⟩)
            refine one_ (i := 13) (N := some 31) (bitsA 16 16383) rfl rfl (one_of HT_.out (by kernel_rfl)) (by decide) (fun K hK => ?_)
            refine goes_ Try.func99 (by kernel_rfl) rfl #[.agg #[.string s.f0, .string s.f1, .slice A2 s.f2.length c2], .string a, .string b] (by rfl) rfl rfl mt ?_
            with_reducible refine (impl_Series_compare.calls _ s.f0 s.f1 A2 c2 s.f2 a b r _ EQ.out.2 EQ.out.1 KC.out).mono ?_
            rintro e wc3 ⟨rfl, hb⟩
            refine ⟨_, rfl, ?_⟩
            replace ST := ak (putS_below ST.out hb)
            replace BK := ak ST.out.1
            replace EC0 := ak (cw EC0.out hb)
            replace EC1 := ak (cw EC1.out hb)
            replace EC2 := ak (cw EC2.out hb)
            replace EQ := ak (And.intro EQ.out.1 (Kd.C_below EQ.out.2 hb))
            clear hb
            refine hK.out _ _ ⟨EC0.out, EC1.out, EC2.out, bc BK 0, bc BK 1⟩ (fun hHeld => ?_)
            clear hK K
            refine nm ?_
            refine pu 14 (some 32) (bitsA 16 32767) ?_
            refine pu 15 (some 33) (bitsA 16 65535) ?_
            refine done_ (done_of HT_.out (by kernel_rfl)) ?_
            go_wp2
            go_roundg suf.length
            case measure => have := HA.out.2.2.1; simp only [List.length_cons] at this; omega
            case rel => exact ⟨pre ++ [s], suf, x7, rfl, ⟨X7.out.2, X7.out.1, Nat.le_refl _, fun y hy => by
              rcases List.mem_append.1 hy with hy | hy
              · exact HA.out.2.2.2 y hy
              · rw [List.mem_singleton.1 hy, ← RR.out]; exact HN.out⟩, ⟨ST.out⟩⟩
          · have t2 : decide (r < 0) = false := decide_eq_false hneg
            clear w67 X7
            go_wp2
            replace ST := ak (putS_below ST.out (below_drew (Below.refl _ _)))
            have BK := ak ST.out.1
            replace EC0 := ak (show wr.drew.cell? _ = _ from EC0.out)
            replace EC1 := ak (show wr.drew.cell? _ = _ from EC1.out)
            replace EC2 := ak (show wr.drew.cell? _ = _ from EC2.out)
            replace EQ := ak (And.intro EQ.out.1 (Kd.C_drew EQ.out.2))
            refine start_ (n := 16) (S := fun w' => w'.cell? ⟨g, x6.toNat * 3, none⟩ = some (.string s.f0) ∧ w'.cell? ⟨g, x6.toNat * 3 + 1, none⟩ = some (.string s.f1) ∧ w'.cell? ⟨g, x6.toNat * 3 + 2, none⟩ = some (.slice A2 s.f2.length c2) ∧ w'.cell? ⟨gb, 0, none⟩ = some (.string a) ∧ w'.cell? ⟨gb, 1, none⟩ = some (.string b)) (ds := []) (bitsA 16 0) (by kernel_rfl) rfl rfl ⟨EC0.out, EC1.out, EC2.out, bc BK 0, bc BK 1⟩ (fun hHeld => ?_)
            refine with_tabW impl_put.tab4 impl_put.bits4 (fun HT_ HW_ => ?_)
            generalize wr.drew = wd6 at ST BK EC0 EC1 EC2 EQ hHeld ⊢
            refine pu 0 (some 18) (bitsA 16 1) ?_
            refine pu 1 (some 19) (bitsA 16 3) ?_
            refine pu 2 (some 20) (bitsA 16 7) ?_
            refine pu 3 (some 21) (bitsA 16 15) ?_
            refine pu 4 (some 22) (bitsA 16 31) ?_
            refine pu 5 (some 23) (bitsA 16 63) ?_
            refine pu 6 (some 24) (bitsA 16 127) ?_
            refine pu 7 (some 25) (bitsA 16 255) ?_
            refine tk 8 (some 26) (bitsA 16 511) hHeld ?_ (hy := Or.inl ⟨by rfl, by rintro w' ⟨s0, s1, s2, s3, s4⟩; go_simp; with_reducible rfl⟩)
            refine pu 9 (some 27) (bitsA 16 1023) ?_
            refine tk 10 (some 28) (bitsA 16 2047) hHeld ?_ (hy := Or.inl ⟨by rfl, by rintro w' ⟨s0, s1, s2, s3, s4⟩; go_simp; with_reducible rfl⟩)
            refine pu 11 (some 29) (bitsA 16 4095) ?_
            refine tk 12 (some 30) (bitsA 16 8191) hHeld ?_ (hy := Or.inl ⟨by rfl, by rintro w' ⟨s0, s1, s2, s3, s4⟩; go_simp; with_reducible rfl⟩)
            refine one_ (i := 13) (N := some 31) (bitsA 16 16383) rfl rfl (one_of HT_.out (by kernel_rfl)) (by decide) (fun K hK => ?_)
            refine goes_ Try.func99 (by kernel_rfl) rfl #[.agg #[.string s.f0, .string s.f1, .slice A2 s.f2.length c2], .string a, .string b] (by rfl) rfl rfl mt ?_
            with_reducible refine (impl_Series_compare.calls _ s.f0 s.f1 A2 c2 s.f2 a b r _ EQ.out.2 EQ.out.1 KC.out).mono ?_
            rintro e wc5 ⟨rfl, hb⟩
            refine ⟨_, rfl, ?_⟩
            replace ST := ak (putS_below ST.out hb)
            replace BK := ak ST.out.1
            replace EC0 := ak (cw EC0.out hb)
            replace EC1 := ak (cw EC1.out hb)
            replace EC2 := ak (cw EC2.out hb)
            replace EQ := ak (And.intro EQ.out.1 (Kd.C_below EQ.out.2 hb))
            clear hb
            refine hK.out _ _ ⟨EC0.out, EC1.out, EC2.out, bc BK 0, bc BK 1⟩ (fun hHeld => ?_)
            clear hK K
            refine nm ?_
            refine pu 14 (some 32) (bitsA 16 32767) ?_
            refine pu 15 (some 33) (bitsA 16 65535) ?_
            refine done_ (done_of HT_.out (by kernel_rfl)) ?_
            clear BK
            have BK := ak ST.out.1
            obtain ⟨hcz_0, hcz_1, hcz_2, hcz_3, hfz_0, hfz_1, hfz_2, hfz_3⟩ := cz4 BK
            go_wp2_with (first | ((with_reducible refine gate_dst (N := 7) rfl ?_); refine bx 7 #[.int .i64 0, .int .i64 0] 37 ?_; intro gp hg wp hbox hb; have BP := ak hbox; have GP := ak (show wc5.heap.size ≤ gp from by rw [hg]; exact Nat.le_refl _); have HW := ak hb; clear hb hbox hg; obtain ⟨hcp_0, hcp_1, hfp_0, hfp_1⟩ := cz2 BP) | ((with_reducible refine gate_store (t := 37) (p := 7) rfl ?_); refine store_event (t := 37) (p := 7) (v := ?vo_p) (w1 := ((wp.setCell ⟨gp, 0, none⟩ (.int .i64 at_)).setCell ⟨gp, 1, none⟩ (.int .i64 vl))) ?hg ?ho ?hn ?hr ?_; (case ho => rfl); (case hg => rfl); (case hn => rfl); (case hr => first | (go_simp; done) | (go_simp; rfl)); intro wq hw; have hb : Below wc5.heap.size wc5 wq := (by rw [hw]; exact below_set (below_set HW.out GP.out) GP.out); replace ST := ak (putS_below ST.out hb); have BQ := ak (show wq.heap[gp]? = some (.cells #[.int .i64 at_, .int .i64 vl] 37 (0, 0)) from by rw [hw]; exact blk_put (cs := #[.int .i64 at_, .int .i64 0]) (blk_put (cs := #[.int .i64 0, .int .i64 0]) BP.out 0 _ rfl) 1 _ rfl); replace EC0 := ak (cw EC0.out hb); replace EC1 := ak (cw EC1.out hb); replace EC2 := ak (cw EC2.out hb); replace EQ := ak (And.intro EQ.out.1 (Kd.C_below EQ.out.2 hb)); clear hb hw hcp_0 hcp_1 hfp_0 hfp_1 BP GP HW BK hcz_0 hcz_1 hcz_2 hcz_3 hfz_0 hfz_1 hfz_2 hfz_3))
            by_cases hz : r = 0
            · have c3 : (r == 0) = true := beq_iff_eq.2 hz
              have c4 : r = 0 := hz
              have RZ := ak (show cmpS s.f0 s.f1 a b = 0 from by rw [← RR.out]; exact hz)
              clear hneg t2 hz
              replace ST := ak (putS_below ST.out (below_drew (Below.refl _ _)))
              have BK := ak ST.out.1
              replace EC0 := ak (show wq.drew.cell? _ = _ from EC0.out)
              replace EC1 := ak (show wq.drew.cell? _ = _ from EC1.out)
              replace EC2 := ak (show wq.drew.cell? _ = _ from EC2.out)
              replace EQ := ak (And.intro EQ.out.1 (Kd.C_drew EQ.out.2))
              replace BQ := ak (blk_drew BQ.out)
              refine start_ (n := 16) (S := fun w' => w'.cell? ⟨g, x6.toNat * 3, none⟩ = some (.string s.f0) ∧ w'.cell? ⟨g, x6.toNat * 3 + 1, none⟩ = some (.string s.f1) ∧ w'.cell? ⟨g, x6.toNat * 3 + 2, none⟩ = some (.slice A2 s.f2.length c2) ∧ w'.cell? ⟨gb, 0, none⟩ = some (.string a) ∧ w'.cell? ⟨gb, 1, none⟩ = some (.string b)) (ds := []) (bitsA 16 0) (by kernel_rfl) rfl rfl ⟨EC0.out, EC1.out, EC2.out, bc BK 0, bc BK 1⟩ (fun hHeld => ?_)
              refine with_tabW impl_put.tab7 impl_put.bits7 (fun HT_ HW_ => ?_)
              generalize wq.drew = wd8 at ST BK EC0 EC1 EC2 EQ BQ hHeld ⊢
              refine pu 0 (some 41) (bitsA 16 1) ?_
              refine pu 1 (some 42) (bitsA 16 3) ?_
              refine pu 2 (some 43) (bitsA 16 7) ?_
              refine pu 3 (some 44) (bitsA 16 15) ?_
              refine pu 4 (some 45) (bitsA 16 31) ?_
              refine pu 5 (some 46) (bitsA 16 63) ?_
              refine pu 6 (some 47) (bitsA 16 127) ?_
              refine pu 7 (some 48) (bitsA 16 255) ?_
              refine tk 8 (some 49) (bitsA 16 511) hHeld ?_ (hy := Or.inl ⟨by rfl, by rintro w' ⟨s0, s1, s2, s3, s4⟩; go_simp; with_reducible rfl⟩)
              refine pu 9 (some 50) (bitsA 16 1023) ?_
              refine tk 10 (some 51) (bitsA 16 2047) hHeld ?_ (hy := Or.inl ⟨by rfl, by rintro w' ⟨s0, s1, s2, s3, s4⟩; go_simp; with_reducible rfl⟩)
              refine pu 11 (some 52) (bitsA 16 4095) ?_
              refine tk 12 (some 53) (bitsA 16 8191) hHeld ?_ (hy := Or.inl ⟨by rfl, by rintro w' ⟨s0, s1, s2, s3, s4⟩; go_simp; with_reducible rfl⟩)
              refine one_ (i := 13) (N := some 54) (bitsA 16 16383) rfl rfl (one_of HT_.out (by kernel_rfl)) (by decide) (fun K hK => ?_)
              refine goes_ Try.func99 (by kernel_rfl) rfl #[.agg #[.string s.f0, .string s.f1, .slice A2 s.f2.length c2], .string a, .string b] (by rfl) rfl rfl mt ?_
              with_reducible refine (impl_Series_compare.calls _ s.f0 s.f1 A2 c2 s.f2 a b r _ EQ.out.2 EQ.out.1 KC.out).mono ?_
              rintro e wc7 ⟨rfl, hb⟩
              refine ⟨_, rfl, ?_⟩
              replace ST := ak (putS_below ST.out hb)
              replace BK := ak ST.out.1
              replace EC0 := ak (cw EC0.out hb)
              replace EC1 := ak (cw EC1.out hb)
              replace EC2 := ak (cw EC2.out hb)
              replace EQ := ak (And.intro EQ.out.1 (Kd.C_below EQ.out.2 hb))
              replace BQ := ak (blk_below BQ.out hb)
              clear hb
              refine hK.out _ _ ⟨EC0.out, EC1.out, EC2.out, bc BK 0, bc BK 1⟩ (fun hHeld => ?_)
              clear hK K
              refine nm ?_
              refine pu 14 (some 55) (bitsA 16 32767) ?_
              refine pu 15 (some 56) (bitsA 16 65535) ?_
              refine done_ (done_of HT_.out (by kernel_rfl)) ?_
              clear c3 c4
              have hx2 := EC2.out
              obtain ⟨oki, c_, hcl, hM, hcc, hoki, hH⟩ := Kd.S_lend ST.out.2.1 z81 x6 PZ.out QZ.out
              rw [G1.out] at hM
              obtain ⟨v2, rfl, hQ⟩ := kq_openM hM
              obtain ⟨g2, o2, c3_, ev, gb2, gl2, HG2⟩ := Kd.Q_form hQ (by have := SLN.out.1; omega)
              subst ev
              have hc2 := hcc 2 _ rfl
              have hsame := Option.some.inj (hx2.symm.trans hc2)
              injection hsame with e1_ _ e3_
              subst e1_ e3_
              have NL := SLN
              have HQ := ak hQ
              have HH := ak hH
              have HI := ak hoki
              have HCC := ak (show ∀ j u, [Value.string s.f0, Value.string s.f1, Value.slice (some ⟨g2, o2, none⟩) s.f2.length c2][j]? = some u → _ from hcc)
              obtain ⟨y, hy⟩ : ∃ y : Int, y = (s.f2.length : Int) - 1 := ⟨_, rfl⟩
              have wn : IntKind.i64.wrap ((s.f2.length : Int) - 1) = y := (i64_w _).trans (by have := NL.out; rw [hy]; unfold wrap64; omega)
              have py : 0 ≤ y := by have := NL.out; omega
              have qy : y < (s.f2.length : Int) := by omega
              obtain ⟨cp, hcpl, hMp, hccp, hfrp⟩ := Kd.Q_elem hQ z37 y py qy
              obtain ⟨pt, hpt⟩ : ∃ q, q = s.f2.getD y.toNat z37 := ⟨_, rfl⟩
              rw [← hpt] at hMp
              obtain rfl := k37_openM hMp
              have hp0 := hccp 0 _ rfl
              have PL := ak (show pt.f0 = lastAt s.f2 from by rw [hpt]; unfold lastAt; rw [show y.toNat = s.f2.length - 1 from by have := NL.out; omega])
              have EP := ak (show _ = some (Value.int .i64 pt.f0) from hp0)
              replace py := eq_true py
              replace qy := eq_true qy
              replace BK := ak ST.out.1
              clear hcl hM hcc hoki hH hQ hc2 gb2 gl2 HG2 hy hcpl hMp hccp hfrp hpt hp0 EC0 EC1 EC2 EQ
              go_wp2
              replace EP := ak (show (World.drew _).cell? _ = _ from EP.out)
              replace BQ := ak (blk_drew BQ.out)
              replace BK := ak (blk_drew BK.out)
              replace HQ := ak (Kd.Q_drew HQ.out)
              replace HH := ak (Kd.H_drew HH.out)
              by_cases hold : at_ ≤ pt.f0
              · have c5 : decide (at_ ≤ pt.f0) = true := decide_eq_true hold
                clear hx2
                replace ST := ak (putS_below ST.out (below_drew (Below.refl _ _)))
                refine start_ (n := 10) (S := fun w' => w'.cell? ⟨g2, o2 + y.toNat * 2, none⟩ = some (.int .i64 pt.f0) ∧ w'.cell? ⟨gb, 3, none⟩ = some (.int .i64 at_)) (ds := []) (bitsA 10 0) (by kernel_rfl) rfl rfl ⟨EP.out, bc BK 3⟩ (fun hHeld => ?_)
                refine with_tabW impl_put.tab9 impl_put.bits9 (fun HT_ HW_ => ?_)
                generalize wc7.drew = wd9 at ST EP BQ BK HQ HH hHeld ⊢
                refine pu 0 (some 62) (bitsA 10 1) ?_
                refine pu 1 (some 63) (bitsA 10 3) ?_
                refine pu 2 (some 64) (bitsA 10 7) ?_
                refine pu 3 (some 65) (bitsA 10 15) ?_
                refine pu 4 (some 66) (bitsA 10 31) ?_
                refine pu 5 (some 67) (bitsA 10 63) ?_
                refine tk 6 (some 68) (bitsA 10 127) hHeld ?_ (hy := Or.inl ⟨by rfl, by rintro w' ⟨s0, s1⟩; go_simp; with_reducible rfl⟩)
                refine pu 7 (some 69) (bitsA 10 255) ?_
                refine tk 8 (some 70) (bitsA 10 511) hHeld ?_ (hy := Or.inl ⟨by rfl, by rintro w' ⟨s0, s1⟩; go_simp; with_reducible rfl⟩)
                refine pu 9 (some 71) (bitsA 10 1023) ?_
                refine done_ (done_of HT_.out (by kernel_rfl)) ?_
                have EV := ak (putV_old OK.out HA.out.1 HA.out.2.2.2 RZ.out (by rw [← PL.out]; exact hold))
                clear hold
                go_wp2
                rw [EV.out]
                go_ret2
                exact ⟨_, rfl, ST.out.2.1, ST.out.2.2.1, ST.out.2.2.2⟩
              · have c5 : decide (at_ ≤ pt.f0) = false := decide_eq_false hold
                clear hx2
                replace ST := ak (putS_below ST.out (below_drew (Below.refl _ _)))
                refine start_ (n := 10) (S := fun w' => w'.cell? ⟨g2, o2 + y.toNat * 2, none⟩ = some (.int .i64 pt.f0) ∧ w'.cell? ⟨gb, 3, none⟩ = some (.int .i64 at_)) (ds := []) (bitsA 10 0) (by kernel_rfl) rfl rfl ⟨EP.out, bc BK 3⟩ (fun hHeld => ?_)
                refine with_tabW impl_put.tab9 impl_put.bits9 (fun HT_ HW_ => ?_)
                generalize wc7.drew = wd10 at ST EP BQ BK HQ HH hHeld ⊢
                refine pu 0 (some 62) (bitsA 10 1) ?_
                refine pu 1 (some 63) (bitsA 10 3) ?_
                refine pu 2 (some 64) (bitsA 10 7) ?_
                refine pu 3 (some 65) (bitsA 10 15) ?_
                refine pu 4 (some 66) (bitsA 10 31) ?_
                refine pu 5 (some 67) (bitsA 10 63) ?_
                refine tk 6 (some 68) (bitsA 10 127) hHeld ?_ (hy := Or.inl ⟨by rfl, by rintro w' ⟨s0, s1⟩; go_simp; with_reducible rfl⟩)
                refine pu 7 (some 69) (bitsA 10 255) ?_
                refine tk 8 (some 70) (bitsA 10 511) hHeld ?_ (hy := Or.inl ⟨by rfl, by rintro w' ⟨s0, s1⟩; go_simp; with_reducible rfl⟩)
                refine pu 9 (some 71) (bitsA 10 1023) ?_
                refine done_ (done_of HT_.out (by kernel_rfl)) ?_
                have EV := ak (putV_done OK.out HA.out.1 HA.out.2.2.2 RZ.out (by rw [← PL.out]; exact hold))
                clear hold c5
                obtain ⟨hcq_0, hcq_1, hfq_0, hfq_1⟩ := cz2 BQ
                have GO := ak (show P0_ g ∨ w.heap.size ≤ g from (Kd.S_R ST.out.2.1).1 g (by simp [Value.ownBlock]))
                have GL := ak (show g < wd10.heap.size from Kd.S_lt ST.out.2.1 g (by simp [Value.ownBlock]))
                have G2 := ak (show ∀ y : S81, l.set x6.toNat y = pre ++ y :: suf from fun y => by rw [show x6.toNat = pre.length from by rw [HA.out.2.1]; omega, HA.out.1]; exact set_mid _ _ _ _)
                by_cases h12 : s.f2.length = 12
                · have wz : IntKind.i64.wrap ((s.f2.length : Int) + 1 - 12) = 1 := (i64_w _).trans (by rw [h12]; unfold wrap64; omega)
                  have HK12 := ak (show s.f2.length + 1 - 12 = 1 from by omega)
                  have kl : 1 ≤ s.f2.length + 1 := by omega
                  have kl2 : (1 : Int) ≤ (s.f2.length : Int) + 1 := by omega
                  have kl3 : (0 : Int) ≤ (s.f2.length : Int) + 1 := by omega
                  clear h12
                  go_wp2_with (first | ((with_reducible refine gate_builtin (b := .append) (xs := #[.tmp 73, .tmp 75]) rfl ?_); at_builtin; refine Kd.Q_append k37 (w0 := w0) w0.heap.size rfl (.tmp 73) (.tmp 75) 31 37 (.agg #[(.int .i64 0), (.int .i64 0)]) 16 rfl Try.underlying31 info37 rfl (by decide) (by omega) (.slice (some ⟨g2, o2, none⟩) s.f2.length c2) s.f2 (⟨at_, vl⟩ : S37) [.int .i64 at_, .int .i64 vl] (fun k => oki k ∨ ((P0_ k ∨ w.heap.size ≤ k) ∧ wd10.heap.size ≤ k)) (fun _ => False) rfl rfl ?aP (fun _ hk => hk.elim) ?aF ?aO ?aB ?aS ?aL ?_; (case aP => exact k37_mkM _ _ _ (⟨at_, vl⟩ : S37)); (case aF => exact fun k hk => .inr ⟨.inr (Nat.le_trans ST.out.2.2.2.1 hk), hk⟩); (case aO => exact Kd.Q_mono HQ.out (fun k hk => .inl hk)); (case aB => exact ST.out.2.2.1); (case aS => exact ST.out.2.2.1.size); (case aL => have := NL.out; omega); intro v1 wa hQ1 hb1 hg1 hat1; have HH1 := ak (Kd.H_grown (Kd.H_widen HH.out) hg1 (fun k e_ => .inl (HQ.out.1 k e_))); have HK1 := ak (Kept.of_grown (S := P0_) hg1 ST.out.2.2.2 (fun k e_ => (HI.out k (HQ.out.1 k e_)).1)); have HB1 := ak hb1; obtain ⟨g3, o3, c3, e3, _, _, _⟩ := Kd.Q_form hQ1 (by simp); rw [List.length_append, List.length_singleton] at e3; subst e3; have HQ1 := ak hQ1; have cn := (Kd.Q_reads' hQ1).2.1; have cn1 : ¬ (c3 = 1) := (by have := NL.out; omega); clear hg1 hb1 hat1 hQ1 hcq_0 hcq_1 hfq_0 hfq_1; have hx2 : wa.cell? ⟨g, x6.toNat * 3 + 2, none⟩ = some (.slice (some ⟨g2, o2, none⟩) s.f2.length c2) := (Kd.H_at HH1.out PZ.out QZ.out).1 2 _ rfl; have hf2_ : wa.frozen? ⟨g, x6.toNat * 3 + 2, none⟩ = false := (Kd.H_at HH1.out PZ.out QZ.out).2 2) | ((with_reducible refine gate_store (t := 31) (p := 86) rfl ?_); refine store_event (t := 31) (p := 86) (v := ?vo_s) (w1 := (wa.setCell ⟨g, x6.toNat * 3 + 2, none⟩ (.slice (some ⟨g3, o3 + 2, none⟩) s.f2.length (c3 - 1)))) ?hg ?ho ?hn ?hr ?_; (case ho => rfl); (case hg => rfl); (case hn => rfl); (case hr => first | (go_simp; done) | (go_simp; rfl)); intro wb hw; have HSG := Kd.H_seg HH1.out PZ.out QZ.out (seg := [.slice (some ⟨g3, o3 + 2, none⟩) s.f2.length (c3 - 1)]) (j := 2) (show 2 + 1 ≤ 3 from by decide) (fun q hq => by rw [List.mem_singleton.1 hq]; rfl); have hgr : wa.grownBy wb (some g) := (by rw [hw]; exact HSG.2); have hd_ := Kd.Q_drop HQ1.out (k := 1) (by rw [List.length_append, List.length_singleton]; omega); rw [if_neg cn1, Nat.add_sub_cancel, Option.map_some, Addr.add_lit] at hd_; have hqd : Kd.Q k37 37 wb w0.heap.size (fun k => oki k ∨ ((P0_ k ∨ w.heap.size ≤ k) ∧ wd10.heap.size ≤ k)) (.slice (some ⟨g3, o3 + 2, none⟩) s.f2.length (c3 - 1)) (pushP s.f2 ⟨at_, vl⟩) := (by unfold pushP; rw [HK12.out]; exact Kd.Q_grown hd_ hgr (fun k hk e_ => by injection e_ with e_; exact hk.elim (fun hk => (HI.out _ hk).2 e_) (fun hk => by have := GL.out; have := hk.2; omega))); have HF := ak (show Kd.S kq 81 wb w0.heap.size (fun k => P0_ k ∨ w.heap.size ≤ k) (.slice (some ⟨g, 0, none⟩) l.length co) (l.set x6.toNat ⟨s.f0, s.f1, pushP s.f2 ⟨at_, vl⟩⟩) from by rw [hw] at hqd ⊢; exact Kd.H_back HSG.1 (kq_mkM _ _ _ (⟨s.f0, s.f1, pushP s.f2 ⟨at_, vl⟩⟩ : S81) hqd) (fun k hk => hk)); have HFB := ak (show Below w0.heap.size w0 wb from by rw [hw]; exact below_set HB1.out GB.out); have HFK := ak (Kept.of_grown (S := P0_) hgr HK1.out (fun k e_ => by injection e_ with e_; subst e_; exact GO.out)); clear HSG hgr hd_ hqd hw))
                  rw [EV.out]
                  go_ret2
                  exact ⟨_, rfl, by rw [← G2.out]; exact HF.out, HFB.out, HFK.out⟩
                · obtain ⟨z, hz_⟩ : ∃ z : Int, z = (s.f2.length : Int) + 1 - 12 := ⟨_, rfl⟩
                  have wz : IntKind.i64.wrap ((s.f2.length : Int) + 1 - 12) = z := (i64_w _).trans (by have := NL.out; rw [hz_]; unfold wrap64; omega)
                  have zle : z ≤ 0 := by have := NL.out; omega
                  have HK12 := ak (show s.f2.length + 1 - 12 = 0 from by have := NL.out; omega)
                  clear hz_
                  have kl : 1 ≤ s.f2.length + 1 := by omega
                  have kl2 : (1 : Int) ≤ (s.f2.length : Int) + 1 := by omega
                  have kl3 : (0 : Int) ≤ (s.f2.length : Int) + 1 := by omega
                  clear h12
                  go_wp2_with (first | ((with_reducible refine gate_builtin (b := .append) (xs := #[.tmp 73, .tmp 75]) rfl ?_); at_builtin; refine Kd.Q_append k37 (w0 := w0) w0.heap.size rfl (.tmp 73) (.tmp 75) 31 37 (.agg #[(.int .i64 0), (.int .i64 0)]) 16 rfl Try.underlying31 info37 rfl (by decide) (by omega) (.slice (some ⟨g2, o2, none⟩) s.f2.length c2) s.f2 (⟨at_, vl⟩ : S37) [.int .i64 at_, .int .i64 vl] (fun k => oki k ∨ ((P0_ k ∨ w.heap.size ≤ k) ∧ wd10.heap.size ≤ k)) (fun _ => False) rfl rfl ?aP (fun _ hk => hk.elim) ?aF ?aO ?aB ?aS ?aL ?_; (case aP => exact k37_mkM _ _ _ (⟨at_, vl⟩ : S37)); (case aF => exact fun k hk => .inr ⟨.inr (Nat.le_trans ST.out.2.2.2.1 hk), hk⟩); (case aO => exact Kd.Q_mono HQ.out (fun k hk => .inl hk)); (case aB => exact ST.out.2.2.1); (case aS => exact ST.out.2.2.1.size); (case aL => have := NL.out; omega); intro v1 wa hQ1 hb1 hg1 hat1; have HH1 := ak (Kd.H_grown (Kd.H_widen HH.out) hg1 (fun k e_ => .inl (HQ.out.1 k e_))); have HK1 := ak (Kept.of_grown (S := P0_) hg1 ST.out.2.2.2 (fun k e_ => (HI.out k (HQ.out.1 k e_)).1)); have HB1 := ak hb1; obtain ⟨g3, o3, c3, e3, _, _, _⟩ := Kd.Q_form hQ1 (by simp); rw [List.length_append, List.length_singleton] at e3; subst e3; have HQ1 := ak hQ1; have cn := (Kd.Q_reads' hQ1).2.1; have cn1 : ¬ (c3 = 1) := (by have := NL.out; omega); clear hg1 hb1 hat1 hQ1 hcq_0 hcq_1 hfq_0 hfq_1; have hx2 : wa.cell? ⟨g, x6.toNat * 3 + 2, none⟩ = some (.slice (some ⟨g2, o2, none⟩) s.f2.length c2) := (Kd.H_at HH1.out PZ.out QZ.out).1 2 _ rfl; have hf2_ : wa.frozen? ⟨g, x6.toNat * 3 + 2, none⟩ = false := (Kd.H_at HH1.out PZ.out QZ.out).2 2) | ((with_reducible refine gate_store (t := 31) (p := 86) rfl ?_); refine store_event (t := 31) (p := 86) (v := ?vo_s) (w1 := (wa.setCell ⟨g, x6.toNat * 3 + 2, none⟩ (.slice (some ⟨g3, o3, none⟩) (s.f2.length + 1) c3))) ?hg ?ho ?hn ?hr ?_; (case ho => rfl); (case hg => rfl); (case hn => rfl); (case hr => first | (go_simp; done) | (go_simp; rfl)); intro wb hw; have HSG := Kd.H_seg HH1.out PZ.out QZ.out (seg := [.slice (some ⟨g3, o3, none⟩) (s.f2.length + 1) c3]) (j := 2) (show 2 + 1 ≤ 3 from by decide) (fun q hq => by rw [List.mem_singleton.1 hq]; rfl); have hgr : wa.grownBy wb (some g) := (by rw [hw]; exact HSG.2); have hd_ := HQ1.out; have hqd : Kd.Q k37 37 wb w0.heap.size (fun k => oki k ∨ ((P0_ k ∨ w.heap.size ≤ k) ∧ wd10.heap.size ≤ k)) (.slice (some ⟨g3, o3, none⟩) (s.f2.length + 1) c3) (pushP s.f2 ⟨at_, vl⟩) := (by unfold pushP; rw [HK12.out, List.drop_zero]; exact Kd.Q_grown hd_ hgr (fun k hk e_ => by injection e_ with e_; exact hk.elim (fun hk => (HI.out _ hk).2 e_) (fun hk => by have := GL.out; have := hk.2; omega))); have HF := ak (show Kd.S kq 81 wb w0.heap.size (fun k => P0_ k ∨ w.heap.size ≤ k) (.slice (some ⟨g, 0, none⟩) l.length co) (l.set x6.toNat ⟨s.f0, s.f1, pushP s.f2 ⟨at_, vl⟩⟩) from by rw [hw] at hqd ⊢; exact Kd.H_back HSG.1 (kq_mkM _ _ _ (⟨s.f0, s.f1, pushP s.f2 ⟨at_, vl⟩⟩ : S81) hqd) (fun k hk => hk)); have HFB := ak (show Below w0.heap.size w0 wb from by rw [hw]; exact below_set HB1.out GB.out); have HFK := ak (Kept.of_grown (S := P0_) hgr HK1.out (fun k e_ => by injection e_ with e_; subst e_; exact GO.out)); clear HSG hgr hd_ hqd hw))
                  rw [EV.out]
                  go_ret2
                  exact ⟨_, rfl, by rw [← G2.out]; exact HF.out, HFB.out, HFK.out⟩
            · have c3 : (r == 0) = false := beq_eq_false_iff_ne.2 hz
              have c4 : ¬ (r = 0) := hz
              have HS := ak (show ∀ s' r', s :: suf = s' :: r' → 0 < cmpS s'.f0 s'.f1 a b from fun s' r' e => by injection e with e _; rw [← e, ← RR.out]; omega)
              clear hneg t2 hz
              replace ST := ak (putS_below ST.out (below_drew (Below.refl _ _)))
              have BK := ak ST.out.1
              replace EC0 := ak (show wq.drew.cell? _ = _ from EC0.out)
              replace EC1 := ak (show wq.drew.cell? _ = _ from EC1.out)
              replace EC2 := ak (show wq.drew.cell? _ = _ from EC2.out)
              replace EQ := ak (And.intro EQ.out.1 (Kd.C_drew EQ.out.2))
              replace BQ := ak (blk_drew BQ.out)
              refine start_ (n := 16) (S := fun w' => w'.cell? ⟨g, x6.toNat * 3, none⟩ = some (.string s.f0) ∧ w'.cell? ⟨g, x6.toNat * 3 + 1, none⟩ = some (.string s.f1) ∧ w'.cell? ⟨g, x6.toNat * 3 + 2, none⟩ = some (.slice A2 s.f2.length c2) ∧ w'.cell? ⟨gb, 0, none⟩ = some (.string a) ∧ w'.cell? ⟨gb, 1, none⟩ = some (.string b)) (ds := []) (bitsA 16 0) (by kernel_rfl) rfl rfl ⟨EC0.out, EC1.out, EC2.out, bc BK 0, bc BK 1⟩ (fun hHeld => ?_)
              refine with_tabW impl_put.tab7 impl_put.bits7 (fun HT_ HW_ => ?_)
              generalize wq.drew = wd12 at ST BK EC0 EC1 EC2 EQ BQ hHeld ⊢
              refine pu 0 (some 41) (bitsA 16 1) ?_
              refine pu 1 (some 42) (bitsA 16 3) ?_
              refine pu 2 (some 43) (bitsA 16 7) ?_
              refine pu 3 (some 44) (bitsA 16 15) ?_
              refine pu 4 (some 45) (bitsA 16 31) ?_
              refine pu 5 (some 46) (bitsA 16 63) ?_
              refine pu 6 (some 47) (bitsA 16 127) ?_
              refine pu 7 (some 48) (bitsA 16 255) ?_
              refine tk 8 (some 49) (bitsA 16 511) hHeld ?_ (hy := Or.inl ⟨by rfl, by rintro w' ⟨s0, s1, s2, s3, s4⟩; go_simp; with_reducible rfl⟩)
              refine pu 9 (some 50) (bitsA 16 1023) ?_
              refine tk 10 (some 51) (bitsA 16 2047) hHeld ?_ (hy := Or.inl ⟨by rfl, by rintro w' ⟨s0, s1, s2, s3, s4⟩; go_simp; with_reducible rfl⟩)
              refine pu 11 (some 52) (bitsA 16 4095) ?_
              refine tk 12 (some 53) (bitsA 16 8191) hHeld ?_ (hy := Or.inl ⟨by rfl, by rintro w' ⟨s0, s1, s2, s3, s4⟩; go_simp; with_reducible rfl⟩)
              refine one_ (i := 13) (N := some 54) (bitsA 16 16383) rfl rfl (one_of HT_.out (by kernel_rfl)) (by decide) (fun K hK => ?_)
              refine goes_ Try.func99 (by kernel_rfl) rfl #[.agg #[.string s.f0, .string s.f1, .slice A2 s.f2.length c2], .string a, .string b] (by rfl) rfl rfl mt ?_
              with_reducible refine (impl_Series_compare.calls _ s.f0 s.f1 A2 c2 s.f2 a b r _ EQ.out.2 EQ.out.1 KC.out).mono ?_
              rintro e wc11 ⟨rfl, hb⟩
              refine ⟨_, rfl, ?_⟩
              replace ST := ak (putS_below ST.out hb)
              replace BK := ak ST.out.1
              replace EC0 := ak (cw EC0.out hb)
              replace EC1 := ak (cw EC1.out hb)
              replace EC2 := ak (cw EC2.out hb)
              replace EQ := ak (And.intro EQ.out.1 (Kd.C_below EQ.out.2 hb))
              replace BQ := ak (blk_below BQ.out hb)
              clear hb
              refine hK.out _ _ ⟨EC0.out, EC1.out, EC2.out, bc BK 0, bc BK 1⟩ (fun hHeld => ?_)
              clear hK K
              refine nm ?_
              refine pu 14 (some 55) (bitsA 16 32767) ?_
              refine pu 15 (some 56) (bitsA 16 65535) ?_
              refine done_ (done_of HT_.out (by kernel_rfl)) ?_
              clear c3 c4
              by_cases hf24 : l.length = 24
              · have hf1 : ((l.length : Int) == 24) = true := beq_iff_eq.2 (by omega)
                have hf2 : (l.length : Int) = 24 := by omega
                have EV := ak (putV_full OK.out HA.out.1 HA.out.2.2.2 HS.out hf24)
                clear hf24
                go_wp2
                rw [EV.out]
                go_ret2
                exact ⟨_, rfl, ST.out.2.1, ST.out.2.2.1, ST.out.2.2.2⟩
              · have hf1 : ((l.length : Int) == 24) = false := beq_eq_false_iff_ne.2 (by omega)
                have hf2 : ¬ ((l.length : Int) = 24) := by omega
                have EV := ak (putV_ins OK.out HA.out.1 HA.out.2.2.2 HS.out hf24)
                clear hf24
                obtain ⟨f, Z, hZ1, hZt, hZR, hZC⟩ := Sq_split ST.out.2.1
                have Z1 := ak hZ1
                have Zt := ak hZt
                have ZR := ak hZR
                have ZC := ak hZC
                have ZL := ak (Kd.S_lt ST.out.2.1)
                have ZN := ak (show (Z.map (·.2.1)).length = l.length from by rw [List.length_map, ← hZ1, List.length_map])
                have HX6 := ak HA.out.2.1
                have HLE := ak (show pre.length ≤ l.length from by rw [HA.out.1, List.length_append]; omega)
                have BK := ak ST.out.1
                obtain ⟨hcz_0, hcz_1, hcz_2, hcz_3, hfz_0, hfz_1, hfz_2, hfz_3⟩ := cz4 BK
                obtain ⟨hcq_0, hcq_1, hfq_0, hfq_1⟩ := cz2 BQ
                clear hZ1 hZt hZR hZC
                go_wp2_with (first | ((with_reducible refine gate_dst (N := 99) rfl ?_); refine bsl 99 #[.int .i64 at_, .int .i64 vl] 37 1 ?_; intro gq hg wx hbox hb; have BG := ak hbox; have GQ := ak (show wc11.heap.size ≤ gq from by rw [hg]; exact Nat.le_refl _); have HX := ak hb; clear hb hbox hg) | ((with_reducible refine gate_dst (N := 101) rfl ?_); refine bsl 101 #[.string a, .string b, .slice (some ⟨gq, 0, none⟩) 1 1] 81 1 ?_; intro gs hg wy hbox hb; have BS := ak hbox; have GS := ak (show wx.heap.size ≤ gs from by rw [hg]; exact Nat.le_refl _); replace BG := ak (blk_below BG.out hb); have HY := ak (below_step HX.out hb); clear hb hbox hg) | ((with_reducible refine gate_dst (N := 102) rfl ?_); refine gl (some 102) Try.func129 #[.slice (some ⟨g, 0, none⟩) l.length co, .int .i64 x6, .slice (some ⟨gs, 0, none⟩) 1 1] ?_; (rw [HX6.out]; refine (insertS (Z.map (·.2.1)) pre.length (.string a) (.string b) (.slice (some ⟨gq, 0, none⟩) 1 1) gs (fun k => P0_ k ∨ w.heap.size ≤ k) (.slice (some ⟨g, 0, none⟩) l.length co) w0 wy ?s1 ?s2 BS.out ?s3 ?s4 ?s5 ?s6 ?s7).mono ?_); (case s1 => exact below_step ST.out.2.2.1 HY.out); (case s2 => exact Kd.R_below ZR.out HY.out); (case s3 => exact fun h => by have h1 := ZL.out gs h.symm; have h2 := GS.out; have h3 := HX.out.size; omega); (case s4 => exact fun u hu => by simp only [List.mem_cons, List.not_mem_nil, or_false] at hu; rcases hu with rfl | rfl | rfl <;> rfl); (case s5 => rw [ZN.out]; exact HLE.out); (case s6 => rw [ZN.out]; exact HLX.out); (case s7 => exact fun k hk => .inr (Nat.le_trans (Nat.le_trans ST.out.2.2.2.1 HY.out.size) hk)); rintro e w' ⟨v', rfl, hR', ho', hb', hk'⟩; refine ⟨_, rfl, ?_⟩; have HF := ak (ins_join (s := ⟨a, b, [⟨at_, vl⟩]⟩) Z1.out Zt.out ZC.out ZL.out HY.out GQ.out (blk_lt BG.out) (Kd.Q_of_R (pt_one BG.out (Nat.le_trans ST.out.2.2.1.size GQ.out))) (.inr (Nat.le_trans ST.out.2.2.2.1 GQ.out)) hR' ho' hk'); have HFB := ak hb'; have HFK := ak (Kept.then_ (Kept.below ST.out.2.2.2 HY.out) hk' (fun k hk => (Kd.S_R ST.out.2.1).1 k hk.symm)); clear hR' ho' hb' hk'))
                rw [EV.out]
                go_ret2
                exact ⟨_, rfl, HF.out, HFB.out, HFK.out⟩
end Go.Proofs.Ytplekidnlofioaa.Q
