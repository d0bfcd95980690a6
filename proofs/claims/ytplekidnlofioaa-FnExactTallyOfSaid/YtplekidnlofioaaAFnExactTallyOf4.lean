/- Part 4 of the proof of FnExactTallyOf: contracts of the functions that it reaches, printed and by hand, and what they come to in plain Lean. -/
import Derived.Test.YtplekidnlofioaaAFnExactTallyOf2
import Derived.Test.YtplekidnlofioaaAFnExactTallyOf3
import Derived.WalkLawsBesides
import Derived.Lib.SliceRun
namespace Go.Proofs.Ytplekidnlofioaa.Q
open Go.RowKit Go.Proofs.YtplekidnlofioaaW.PrintWords Go.Proofs.YtplekidnlofioaaW.PrintLast Go.Proofs.YtplekidnlofioaaW.PrintMore
attribute [local go_sem] max2_int min2_int max_two min_two max_three min_three max_four min_four   -- for this text's walks alone
set_option linter.unusedVariables false
set_option linter.unusedSimpArgs false

/-! ### spec_ClassOf: function 87 -/
mutual
def spec_ClassOf.j0 : Nat → List (S81) → ByteArray → Int → Bool → ByteArray → Int → Int → Bool → Int → Int → Int → Option (Int)
 | 0, _, _, _, _, _, _, _, _, _, _, _ => none
 | k + 1, x1, x2, x3, x30, x398000, x398001, x398002, x398003, x399000, x399001, x399002 => if x30 = true then (some (-1)) else (if x398002 = 0 then ((spec_LatestOf.f k x1 x398000 x2).bind fun bt403 => (if bt403.2.2 = true then (spec_ClassOf.j1 k x3 (decide ((wrap64 (bt403.1 + x399001)) < x3)) x398000 x398001 x398002 x398003 x399000 x399001 x399002) else (spec_ClassOf.j1 k x3 true x398000 x398001 x398002 x398003 x399000 x399001 x399002))) else (some 3))
def spec_ClassOf.j1 : Nat → Int → Bool → ByteArray → Int → Int → Bool → Int → Int → Int → Option (Int)
 | 0, _, _, _, _, _, _, _, _, _ => none
 | k + 1, x3, x52, x398000, x398001, x398002, x398003, x399000, x399001, x399002 => if x52 = true then (some 2) else (if x398003 = true then (if (wrap64 (x398001 + x399000)) > x3 then (some 1) else (some 0)) else (some 1))
end
def spec_ClassOf.f (k : Nat) (a0_0 : ByteArray) (a0_1 : Int) (a0_2 : Int) (a0_3 : Bool) (l1 : List (S81)) (a2 : ByteArray) (a3 : Int) (a4_0 : Int) (a4_1 : Int) (a4_2 : Int) : Option (Int) := (spec_PodOk.f k a0_0 a0_1 a0_2 a0_3).bind fun t399 => (if t399 = true then ((spec_RulesOk.f a4_0 a4_1 a4_2).bind fun t400 => (if t400 = true then ((spec_l02Tick.f a3).bind fun t401 => (if t401 = true then ((spec_StoreOk.f k l1).bind fun t402 => (spec_ClassOf.j0 k l1 a2 a3 (!t402) a0_0 a0_1 a0_2 a0_3 a4_0 a4_1 a4_2)) else (spec_ClassOf.j0 k l1 a2 a3 true a0_0 a0_1 a0_2 a0_3 a4_0 a4_1 a4_2))) else (spec_ClassOf.j0 k l1 a2 a3 true a0_0 a0_1 a0_2 a0_3 a4_0 a4_1 a4_2))) else (spec_ClassOf.j0 k l1 a2 a3 true a0_0 a0_1 a0_2 a0_3 a4_0 a4_1 a4_2))
theorem spec_ClassOf.mono_l : ∀ k, (∀ y0 y1 y2 y3 y4 y5 y6 y7 y8 y9 y10, LeO (spec_ClassOf.j0 k y0 y1 y2 y3 y4 y5 y6 y7 y8 y9 y10) (spec_ClassOf.j0 (k + 1) y0 y1 y2 y3 y4 y5 y6 y7 y8 y9 y10)) ∧ (∀ y0 y1 y2 y3 y4 y5 y6 y7 y8, LeO (spec_ClassOf.j1 k y0 y1 y2 y3 y4 y5 y6 y7 y8) (spec_ClassOf.j1 (k + 1) y0 y1 y2 y3 y4 y5 y6 y7 y8))
 | 0 => ⟨fun _ _ _ _ _ _ _ _ _ _ _ r h => by simp [spec_ClassOf.j0] at h, fun _ _ _ _ _ _ _ _ _ r h => by simp [spec_ClassOf.j1] at h⟩
 | k + 1 => by
  obtain ⟨ih0, ih1⟩ := spec_ClassOf.mono_l k
  refine ⟨?_, ?_⟩
  · intro y0 y1 y2 y3 y4 y5 y6 y7 y8 y9 y10
    unfold spec_ClassOf.j0
    repeat' first
    | (with_reducible exact ih0 _ _ _ _ _ _ _ _ _ _ _)
    | (with_reducible exact ih1 _ _ _ _ _ _ _ _ _)
    | (with_reducible exact spec_LatestOf.mono _ _ _ _)
    | (with_reducible exact spec_PodOk.mono _ _ _ _ _)
    | (with_reducible exact spec_StoreOk.mono _ _)
    | (with_reducible exact LeO.refl _)
    | (with_reducible exact LeO.none _)
    | (with_reducible refine LeO.ite ?_ ?_)
    | (with_reducible refine LeO.bind ?_ (fun _ => ?_))
    | exact ih0 _ _ _ _ _ _ _ _ _ _ _
    | exact ih1 _ _ _ _ _ _ _ _ _
    | exact spec_LatestOf.mono _ _ _ _
    | exact spec_PodOk.mono _ _ _ _ _
    | exact spec_StoreOk.mono _ _
    | exact LeO.none _
    | refine LeO.ite ?_ ?_
    | refine LeO.bind ?_ (fun _ => ?_)
  · intro y0 y1 y2 y3 y4 y5 y6 y7 y8
    unfold spec_ClassOf.j1
    repeat' first
    | (with_reducible exact ih0 _ _ _ _ _ _ _ _ _ _ _)
    | (with_reducible exact ih1 _ _ _ _ _ _ _ _ _)
    | (with_reducible exact spec_LatestOf.mono _ _ _ _)
    | (with_reducible exact spec_PodOk.mono _ _ _ _ _)
    | (with_reducible exact spec_StoreOk.mono _ _)
    | (with_reducible exact LeO.refl _)
    | (with_reducible exact LeO.none _)
    | (with_reducible refine LeO.ite ?_ ?_)
    | (with_reducible refine LeO.bind ?_ (fun _ => ?_))
    | exact ih0 _ _ _ _ _ _ _ _ _ _ _
    | exact ih1 _ _ _ _ _ _ _ _ _
    | exact spec_LatestOf.mono _ _ _ _
    | exact spec_PodOk.mono _ _ _ _ _
    | exact spec_StoreOk.mono _ _
    | exact LeO.none _
    | refine LeO.ite ?_ ?_
    | refine LeO.bind ?_ (fun _ => ?_)
theorem spec_ClassOf.mono : ∀ a0 a1 a2 a3 a4 a5 a6 a7 a8 a9 k, LeO (spec_ClassOf.f k a0 a1 a2 a3 a4 a5 a6 a7 a8 a9) (spec_ClassOf.f (k + 1) a0 a1 a2 a3 a4 a5 a6 a7 a8 a9) := by
 intro a0 a1 a2 a3 a4 a5 a6 a7 a8 a9 k
 obtain ⟨ih0, ih1⟩ := spec_ClassOf.mono_l k
 unfold spec_ClassOf.f
 repeat' first
  | (with_reducible exact ih0 _ _ _ _ _ _ _ _ _ _ _)
  | (with_reducible exact ih1 _ _ _ _ _ _ _ _ _)
  | (with_reducible exact spec_LatestOf.mono _ _ _ _)
  | (with_reducible exact spec_PodOk.mono _ _ _ _ _)
  | (with_reducible exact spec_StoreOk.mono _ _)
  | (with_reducible exact LeO.refl _)
  | (with_reducible exact LeO.none _)
  | (with_reducible refine LeO.ite ?_ ?_)
  | (with_reducible refine LeO.bind ?_ (fun _ => ?_))
  | exact ih0 _ _ _ _ _ _ _ _ _ _ _
  | exact ih1 _ _ _ _ _ _ _ _ _
  | exact spec_LatestOf.mono _ _ _ _
  | exact spec_PodOk.mono _ _ _ _ _
  | exact spec_StoreOk.mono _ _
  | exact LeO.none _
  | refine LeO.ite ?_ ?_
  | refine LeO.bind ?_ (fun _ => ?_)
set_option maxHeartbeats 8000000 in
set_option maxRecDepth 100000 in
theorem spec_ClassOf.calls (k : Nat) (a0_0 : ByteArray) (a0_1 : Int) (a0_2 : Int) (a0_3 : Bool) (A1 : Option Addr) (c1 : Nat) (l1 : List (S81)) (a2 : ByteArray) (a3 : Int) (a4_0 : Int) (a4_1 : Int) (a4_2 : Int) (r : Int) (w : World) (hr1 : Kd.C k81 w A1 l1.length l1) (hc1 : l1.length ≤ c1) (h : spec_ClassOf.f k a0_0 a0_1 a0_2 a0_3 l1 a2 a3 a4_0 a4_1 a4_2 = some r) :
 Calls Try.prog 87 #[.agg #[.string a0_0, .int .i64 a0_1, .int .i64 a0_2, .bool a0_3], .slice A1 l1.length c1, .string a2, .int .i64 a3, .agg #[.int .i64 a4_0, .int .i64 a4_1, .int .i64 a4_2]] w fun e w' => e = .returned (.int .i64 r) ∧ Below w.heap.size w w' := by
 have hu147 := Try.underlying147
 have hu61 := Try.underlying61
 have hu37 := Try.underlying37
 have HR1 := Aside0.mk hr1
 have HC1 := Aside0.mk hc1
 clear hr1 hc1
 have HB := Aside0.mk (Below.refl w.heap.size w)
 have H : ((spec_PodOk.f k a0_0 a0_1 a0_2 a0_3).bind fun t399 => (if t399 = true then ((spec_RulesOk.f a4_0 a4_1 a4_2).bind fun t400 => (if t400 = true then ((spec_l02Tick.f a3).bind fun t401 => (if t401 = true then ((spec_StoreOk.f k l1).bind fun t402 => (spec_ClassOf.j0 k l1 a2 a3 (!t402) a0_0 a0_1 a0_2 a0_3 a4_0 a4_1 a4_2)) else (spec_ClassOf.j0 k l1 a2 a3 true a0_0 a0_1 a0_2 a0_3 a4_0 a4_1 a4_2))) else (spec_ClassOf.j0 k l1 a2 a3 true a0_0 a0_1 a0_2 a0_3 a4_0 a4_1 a4_2))) else (spec_ClassOf.j0 k l1 a2 a3 true a0_0 a0_1 a0_2 a0_3 a4_0 a4_1 a4_2))) = some r := h
 clear h
 have HC6 := Aside0.mk H
 clear H
 go_enter Try.func87, Try.ntmps87
 go_upto_region 1 with (first | ((with_reducible refine gate_dst (N := 5) rfl ?_); refine bx 5 #[.string a0_0, .int .i64 a0_1, .int .i64 a0_2, .bool a0_3] 147 ?_; intro gb397 hg w7 hbox hb; have BK397 := ak hbox; have GW397 := gs hg bl; have GE397 := gs hg bl; replace HB := ak (below_step bl hb); clear hb hbox hg) | ((with_reducible refine gate_dst (N := 9) rfl ?_); refine bx 9 #[.int .i64 a4_0, .int .i64 a4_1, .int .i64 a4_2] 61 ?_; intro gb398 hg w8 hbox hb; have BK398 := ak hbox; have GW398 := gs hg (bl1 GE397); have GE398 := gs hg (bl1 GE397); replace HB := ak (below_step (bl1 GE397) hb); have NB397_398 := nl hg BK397; have NB398_397 := ng hg BK397; replace BK397 := bb BK397 hb; clear hb hbox hg))
 (try simp only [Act.put, List.setIfInBounds_toArray, List.set_cons_zero, List.set_cons_succ])
 go_cut [30] (fun v30 wc => ∃ (kq : Nat) (x30_5 : Bool), v30 = .bool x30_5 ∧ Aside0 (spec_ClassOf.j0 kq l1 a2 a3 x30_5 a0_0 a0_1 a0_2 a0_3 a4_0 a4_1 a4_2 = some r) ∧ Aside0 (kq ≤ k) ∧ Aside0 (wc.heap[gb397]? = some (.cells #[.string a0_0, .int .i64 a0_1, .int .i64 a0_2, .bool a0_3] 147 (0, 0))) ∧ Aside0 (wc.heap[gb398]? = some (.cells #[.int .i64 a4_0, .int .i64 a4_1, .int .i64 a4_2] 61 (0, 0))) ∧ Aside0 (Below w.heap.size w wc))
 case first =>
  have H := HC6.out
  clear HC6
  obtain ⟨t399, A90, H⟩ := bo H
  have A9 := Aside0.mk A90
  clear A90
  by_cases c10 : t399 = true
  · subst c10
    replace H := iT H
    obtain ⟨t400, A110, H⟩ := bo H
    have A11 := Aside0.mk A110
    clear A110
    by_cases c12 : t400 = true
    · subst c12
      replace H := iT H
      obtain ⟨t401, A130, H⟩ := bo H
      have A13 := Aside0.mk A130
      clear A130
      by_cases c14 : t401 = true
      · subst c14
        replace H := iT H
        obtain ⟨t402, A150, H⟩ := bo H
        have A15 := Aside0.mk A150
        clear A150
        have H' := Aside0.mk H
        clear H
        have hnb16 := NB397_398.out
        have hnc16 := NB398_397.out
        obtain ⟨hcz17_0, hcz17_1, hcz17_2, hcz17_3, hfz17_0, hfz17_1, hfz17_2, hfz17_3⟩ := cz4 BK397
        go_wp2_with (first | ((with_reducible refine gate_callee (f := 137) rfl ?_); refine gl (some 14) Try.func137 #[.agg #[.string a0_0, .int .i64 a0_1, .int .i64 a0_2, .bool a0_3]] ?_; (with_reducible refine (spec_PodOk.calls k a0_0 a0_1 a0_2 a0_3 true _ A9.out).mono ?_); rintro e w18 ⟨rfl, hb⟩; refine ⟨_, rfl, ?_⟩; replace BK397 := bb BK397 hb; replace BK398 := bb BK398 hb; replace HB := ak (below_step (bl2 GE397 GE398) hb); (try clear hb); (try clear hb2); (try clear hk); (try clear hi); obtain ⟨hcz19_0, hcz19_1, hcz19_2, hfz19_0, hfz19_1, hfz19_2⟩ := cz3 BK398) | (go_at_call 138; (with_reducible refine (spec_RulesOk.calls a4_0 a4_1 a4_2 true _ A11.out).mono ?_); rintro e w20 ⟨rfl, hb⟩; replace BK397 := bb BK397 hb; replace BK398 := bb BK398 hb; replace HB := ak (below_step (bl2 GE397 GE398) hb); (try clear hb); (try clear hb2); (try clear hk); (try clear hi)) | (go_at_call 71; (with_reducible refine (spec_l02Tick.calls a3 true _ A13.out).mono ?_); rintro e w' ⟨rfl, ⟨nd, rfl⟩⟩) | (go_at_call 16; (with_reducible refine (spec_StoreOk.calls k _ _ l1 t402 _ ?side1 ?side2 A15.out).mono ?_); (case side1 => repeat (first | exact (Kd.C_below HR1.out (bl2 GE397 GE398)) | (with_reducible refine Kd.C_alloc ?_ _) | (with_reducible refine Kd.C_drewN ?_ _) | (with_reducible refine Kd.C_drew ?_))); (case side2 => exact HC1.out); rintro e w21 ⟨rfl, hb⟩; replace BK397 := bb BK397 hb; replace BK398 := bb BK398 hb; replace HB := ak (below_step (bl2 GE397 GE398) hb); (try clear hb); (try clear hb2); (try clear hk); (try clear hi)))
        go_meet
        case rel => exact ⟨_, (!t402), es, H', ⟨by first | omega | exact Nat.le_refl _⟩, ⟨bk BK397⟩, ⟨bk BK398⟩, ⟨bl2 GE397 GE398⟩⟩
      · replace c14 := Bool.eq_false_iff.mpr c14
        subst c14
        replace H := iF H
        have H' := Aside0.mk H
        clear H
        have hnb22 := NB397_398.out
        have hnc22 := NB398_397.out
        obtain ⟨hcz23_0, hcz23_1, hcz23_2, hcz23_3, hfz23_0, hfz23_1, hfz23_2, hfz23_3⟩ := cz4 BK397
        go_wp2_with (first | ((with_reducible refine gate_callee (f := 137) rfl ?_); refine gl (some 14) Try.func137 #[.agg #[.string a0_0, .int .i64 a0_1, .int .i64 a0_2, .bool a0_3]] ?_; (with_reducible refine (spec_PodOk.calls k a0_0 a0_1 a0_2 a0_3 true _ A9.out).mono ?_); rintro e w24 ⟨rfl, hb⟩; refine ⟨_, rfl, ?_⟩; replace BK397 := bb BK397 hb; replace BK398 := bb BK398 hb; replace HB := ak (below_step (bl2 GE397 GE398) hb); (try clear hb); (try clear hb2); (try clear hk); (try clear hi); obtain ⟨hcz25_0, hcz25_1, hcz25_2, hfz25_0, hfz25_1, hfz25_2⟩ := cz3 BK398) | (go_at_call 138; (with_reducible refine (spec_RulesOk.calls a4_0 a4_1 a4_2 true _ A11.out).mono ?_); rintro e w26 ⟨rfl, hb⟩; replace BK397 := bb BK397 hb; replace BK398 := bb BK398 hb; replace HB := ak (below_step (bl2 GE397 GE398) hb); (try clear hb); (try clear hb2); (try clear hk); (try clear hi)) | (go_at_call 71; (with_reducible refine (spec_l02Tick.calls a3 false _ A13.out).mono ?_); rintro e w' ⟨rfl, ⟨nd, rfl⟩⟩))
        go_meet
        case rel => exact ⟨_, (true), es, H', ⟨by first | omega | exact Nat.le_refl _⟩, ⟨bk BK397⟩, ⟨bk BK398⟩, ⟨bl2 GE397 GE398⟩⟩
    · replace c12 := Bool.eq_false_iff.mpr c12
      subst c12
      replace H := iF H
      have H' := Aside0.mk H
      clear H
      have hnb27 := NB397_398.out
      have hnc27 := NB398_397.out
      obtain ⟨hcz28_0, hcz28_1, hcz28_2, hcz28_3, hfz28_0, hfz28_1, hfz28_2, hfz28_3⟩ := cz4 BK397
      go_wp2_with (first | ((with_reducible refine gate_callee (f := 137) rfl ?_); refine gl (some 14) Try.func137 #[.agg #[.string a0_0, .int .i64 a0_1, .int .i64 a0_2, .bool a0_3]] ?_; (with_reducible refine (spec_PodOk.calls k a0_0 a0_1 a0_2 a0_3 true _ A9.out).mono ?_); rintro e w29 ⟨rfl, hb⟩; refine ⟨_, rfl, ?_⟩; replace BK397 := bb BK397 hb; replace BK398 := bb BK398 hb; replace HB := ak (below_step (bl2 GE397 GE398) hb); (try clear hb); (try clear hb2); (try clear hk); (try clear hi); obtain ⟨hcz30_0, hcz30_1, hcz30_2, hfz30_0, hfz30_1, hfz30_2⟩ := cz3 BK398) | (go_at_call 138; (with_reducible refine (spec_RulesOk.calls a4_0 a4_1 a4_2 false _ A11.out).mono ?_); rintro e w31 ⟨rfl, hb⟩; replace BK397 := bb BK397 hb; replace BK398 := bb BK398 hb; replace HB := ak (below_step (bl2 GE397 GE398) hb); (try clear hb); (try clear hb2); (try clear hk); (try clear hi)))
      go_meet
      case rel => exact ⟨_, (true), es, H', ⟨by first | omega | exact Nat.le_refl _⟩, ⟨bk BK397⟩, ⟨bk BK398⟩, ⟨bl2 GE397 GE398⟩⟩
  · replace c10 := Bool.eq_false_iff.mpr c10
    subst c10
    replace H := iF H
    have H' := Aside0.mk H
    clear H
    have hnb32 := NB397_398.out
    have hnc32 := NB398_397.out
    obtain ⟨hcz33_0, hcz33_1, hcz33_2, hcz33_3, hfz33_0, hfz33_1, hfz33_2, hfz33_3⟩ := cz4 BK397
    go_wp2_with (first | ((with_reducible refine gate_callee (f := 137) rfl ?_); refine gl (some 14) Try.func137 #[.agg #[.string a0_0, .int .i64 a0_1, .int .i64 a0_2, .bool a0_3]] ?_; (with_reducible refine (spec_PodOk.calls k a0_0 a0_1 a0_2 a0_3 false _ A9.out).mono ?_); rintro e w34 ⟨rfl, hb⟩; refine ⟨_, rfl, ?_⟩; replace BK397 := bb BK397 hb; replace BK398 := bb BK398 hb; replace HB := ak (below_step (bl2 GE397 GE398) hb); (try clear hb); (try clear hb2); (try clear hk); (try clear hi)))
    go_meet
    case rel => exact ⟨_, (true), es, H', ⟨by first | omega | exact Nat.le_refl _⟩, ⟨bk BK397⟩, ⟨bk BK398⟩, ⟨bl2 GE397 GE398⟩⟩
 case rest =>
  clear HC6
  try clear c1
  try clear c2
  try clear p2
  try clear c3
  try clear c8
  try clear c10
  try clear c12
  try clear c13
  try clear c14
  try clear c16
  try clear c22
  try clear c27
  try clear c32
  try clear hcz17_0
  try clear hcz17_1
  try clear hcz17_2
  try clear hcz17_3
  try clear hcz19_0
  try clear hcz19_1
  try clear hcz19_2
  try clear hcz23_0
  try clear hcz23_1
  try clear hcz23_2
  try clear hcz23_3
  try clear hcz25_0
  try clear hcz25_1
  try clear hcz25_2
  try clear hcz28_0
  try clear hcz28_1
  try clear hcz28_2
  try clear hcz28_3
  try clear hcz30_0
  try clear hcz30_1
  try clear hcz30_2
  try clear hcz33_0
  try clear hcz33_1
  try clear hcz33_2
  try clear hcz33_3
  try clear hfz17_0
  try clear hfz17_1
  try clear hfz17_2
  try clear hfz17_3
  try clear hfz19_0
  try clear hfz19_1
  try clear hfz19_2
  try clear hfz23_0
  try clear hfz23_1
  try clear hfz23_2
  try clear hfz23_3
  try clear hfz25_0
  try clear hfz25_1
  try clear hfz25_2
  try clear hfz28_0
  try clear hfz28_1
  try clear hfz28_2
  try clear hfz28_3
  try clear hfz30_0
  try clear hfz30_1
  try clear hfz30_2
  try clear hfz33_0
  try clear hfz33_1
  try clear hfz33_2
  try clear hfz33_3
  obtain ⟨kq, x30_5, rfl, HA, HJ5, BK397, BK398, HB⟩ := hcut
  cases kq with
  | zero => exact absurd HA.out (by simp [spec_ClassOf.j0])
  | succ kj5 =>
   have H := HA.out
   clear HA
   simp only [spec_ClassOf.j0] at H
   by_cases c35 : x30_5 = true
   · subst c35
     replace H := iT H
     obtain rfl := Option.some.inj H
     go_wp2
     go_ret
     exact ⟨ew, bl2 GE397 GE398⟩
   · replace c35 := Bool.eq_false_iff.mpr c35
     subst c35
     replace H := iF H
     by_cases c36 : a0_2 = 0
     · rw [if_pos c36] at H
       have c36b0 : (a0_2 == 0) = true := beq_iff_eq.mpr c36
       have c36b1 : (a0_2 != 0) = false := bne_eq_false_iff_eq.mpr c36
       clear c36
       replace H := Option.bind_eq_some_iff.mp H
       obtain ⟨⟨t403, t404, t405⟩, A370, H⟩ := H
       replace H : (if t405 = true then (spec_ClassOf.j1 kj5 a3 (decide ((wrap64 (t403 + a4_1)) < a3)) a0_0 a0_1 a0_2 a0_3 a4_0 a4_1 a4_2) else (spec_ClassOf.j1 kj5 a3 true a0_0 a0_1 a0_2 a0_3 a4_0 a4_1 a4_2)) = some r := H
       have A37 := Aside0.mk A370
       clear A370
       have HC38 := Aside0.mk H
       clear H
       have hnb39 := NB397_398.out
       have hnc39 := NB398_397.out
       obtain ⟨hcz40_0, hcz40_1, hcz40_2, hcz40_3, hfz40_0, hfz40_1, hfz40_2, hfz40_3⟩ := cz4 BK397
       go_upto_region 6 with (first | ((with_reducible refine gate_callee (f := 103) rfl ?_); refine gl (some 39) Try.func103 #[.slice A1 l1.length c1, .string a0_0, .string a2] ?_; (with_reducible refine (spec_LatestOf.calls kj5 _ _ l1 a0_0 a2 t403 t404 t405 _ ?side1 ?side2 A37.out).mono ?_); (case side1 => exact cb HR1); (case side2 => exact HC1.out); rintro e w41 ⟨rfl, hb⟩; refine ⟨_, rfl, ?_⟩; replace BK397 := bb BK397 hb; replace BK398 := bb BK398 hb; replace HB := ak (below_step (bl2 GE397 GE398) hb); (try clear hb); (try clear hb2); (try clear hk); (try clear hi)) | ((with_reducible refine gate_dst (N := 11) rfl ?_); refine bx 11 #[.int .i64 0, .int .i64 0] 37 ?_; intro gb406 hg w42 hbox hb; have BK406 := ak hbox; have GW406 := gs hg (bl2 GE397 GE398); have GE406 := gs hg (bl2 GE397 GE398); replace HB := ak (below_step (bl2 GE397 GE398) hb); have NB397_406 := nl hg BK397; have NB406_397 := ng hg BK397; replace BK397 := bb BK397 hb; have NB398_406 := nl hg BK398; have NB406_398 := ng hg BK398; replace BK398 := bb BK398 hb; clear hb hbox hg; have hnb43 := NB406_397.out; have hnc43 := NB397_406.out; have hnb44 := NB406_398.out; have hnc44 := NB398_406.out; obtain ⟨hcz45_0, hcz45_1, hfz45_0, hfz45_1⟩ := cz2 BK406))
       (try simp only [Act.put, List.setIfInBounds_toArray, List.set_cons_zero, List.set_cons_succ])
       go_cut [52] (fun v52 wc => ∃ (kq : Nat) (x52_37 : Bool), v52 = .bool x52_37 ∧ Aside0 (spec_ClassOf.j1 kq a3 x52_37 a0_0 a0_1 a0_2 a0_3 a4_0 a4_1 a4_2 = some r) ∧ Aside0 (kq ≤ kj5) ∧ Aside0 (wc.heap[gb397]? = some (.cells #[.string a0_0, .int .i64 a0_1, .int .i64 a0_2, .bool a0_3] 147 (0, 0))) ∧ Aside0 (wc.heap[gb398]? = some (.cells #[.int .i64 a4_0, .int .i64 a4_1, .int .i64 a4_2] 61 (0, 0))) ∧ Aside0 (wc.heap[gb406]? = some (.cells #[.int .i64 t403, .int .i64 t404] 37 (0, 0))) ∧ Aside0 (Below w.heap.size w wc))
       case first =>
        have H := HC38.out
        clear HC38
        by_cases c46 : t405 = true
        · subst c46
          replace H := iT H
          have H' := Aside0.mk H
          clear H
          have hnb47 := NB406_397.out
          have hnc47 := NB397_406.out
          have hnb48 := NB406_398.out
          have hnc48 := NB398_406.out
          obtain ⟨hcz49_0, hcz49_1, hfz49_0, hfz49_1⟩ := cz2 BK406
          have hnb50 := NB398_397.out
          have hnc50 := NB397_398.out
          obtain ⟨hcz51_0, hcz51_1, hcz51_2, hfz51_0, hfz51_1, hfz51_2⟩ := cz3 BK398
          go_wp2
          go_meet
          case rel => exact ⟨_, (decide ((wrap64 (t403 + a4_1)) < a3)), es, H', ⟨by have := HJ5.out; first | omega | exact Nat.le_refl _⟩, ⟨by (with_reducible repeat (first | refine blk_drewN ?_ _ | refine blk_drew ?_ | refine blk_alloc ?_ _)); refine blk_far ?_ NB397_406.out _; (with_reducible repeat (first | refine blk_drewN ?_ _ | refine blk_drew ?_ | refine blk_alloc ?_ _)); refine blk_far ?_ NB397_406.out _; (with_reducible repeat (first | refine blk_drewN ?_ _ | refine blk_drew ?_ | refine blk_alloc ?_ _)); exact BK397.out⟩, ⟨by (with_reducible repeat (first | refine blk_drewN ?_ _ | refine blk_drew ?_ | refine blk_alloc ?_ _)); refine blk_far ?_ NB398_406.out _; (with_reducible repeat (first | refine blk_drewN ?_ _ | refine blk_drew ?_ | refine blk_alloc ?_ _)); refine blk_far ?_ NB398_406.out _; (with_reducible repeat (first | refine blk_drewN ?_ _ | refine blk_drew ?_ | refine blk_alloc ?_ _)); exact BK398.out⟩, ⟨by (with_reducible repeat (first | refine blk_drewN ?_ _ | refine blk_drew ?_ | refine blk_alloc ?_ _)); refine blk_put (cs := #[.int .i64 t403, .int .i64 0]) ?_ 1 _ rfl; (with_reducible repeat (first | refine blk_drewN ?_ _ | refine blk_drew ?_ | refine blk_alloc ?_ _)); refine blk_put (cs := #[.int .i64 0, .int .i64 0]) ?_ 0 _ rfl; (with_reducible repeat (first | refine blk_drewN ?_ _ | refine blk_drew ?_ | refine blk_alloc ?_ _)); exact BK406.out⟩, ⟨bl3 GE397 GE398 GE406⟩⟩
        · replace c46 := Bool.eq_false_iff.mpr c46
          subst c46
          replace H := iF H
          have H' := Aside0.mk H
          clear H
          go_wp2
          go_meet
          case rel => exact ⟨_, (true), es, H', ⟨by have := HJ5.out; first | omega | exact Nat.le_refl _⟩, ⟨by (with_reducible repeat (first | refine blk_drewN ?_ _ | refine blk_drew ?_ | refine blk_alloc ?_ _)); refine blk_far ?_ NB397_406.out _; (with_reducible repeat (first | refine blk_drewN ?_ _ | refine blk_drew ?_ | refine blk_alloc ?_ _)); refine blk_far ?_ NB397_406.out _; (with_reducible repeat (first | refine blk_drewN ?_ _ | refine blk_drew ?_ | refine blk_alloc ?_ _)); exact BK397.out⟩, ⟨by (with_reducible repeat (first | refine blk_drewN ?_ _ | refine blk_drew ?_ | refine blk_alloc ?_ _)); refine blk_far ?_ NB398_406.out _; (with_reducible repeat (first | refine blk_drewN ?_ _ | refine blk_drew ?_ | refine blk_alloc ?_ _)); refine blk_far ?_ NB398_406.out _; (with_reducible repeat (first | refine blk_drewN ?_ _ | refine blk_drew ?_ | refine blk_alloc ?_ _)); exact BK398.out⟩, ⟨by (with_reducible repeat (first | refine blk_drewN ?_ _ | refine blk_drew ?_ | refine blk_alloc ?_ _)); refine blk_put (cs := #[.int .i64 t403, .int .i64 0]) ?_ 1 _ rfl; (with_reducible repeat (first | refine blk_drewN ?_ _ | refine blk_drew ?_ | refine blk_alloc ?_ _)); refine blk_put (cs := #[.int .i64 0, .int .i64 0]) ?_ 0 _ rfl; (with_reducible repeat (first | refine blk_drewN ?_ _ | refine blk_drew ?_ | refine blk_alloc ?_ _)); exact BK406.out⟩, ⟨bl3 GE397 GE398 GE406⟩⟩
       case rest =>
        clear HC38
        try clear c1
        try clear c2
        try clear p2
        try clear c3
        try clear c4
        try clear c5
        try clear p6
        try clear c8
        try clear c10
        try clear c12
        try clear c13
        try clear c14
        try clear c16
        try clear c22
        try clear c27
        try clear c32
        try clear c35
        try clear c36
        try clear c36b0
        try clear c36b1
        try clear c39
        try clear c43
        try clear c44
        try clear c46
        try clear c47
        try clear c48
        try clear c50
        try clear hcz17_0
        try clear hcz17_1
        try clear hcz17_2
        try clear hcz17_3
        try clear hcz19_0
        try clear hcz19_1
        try clear hcz19_2
        try clear hcz23_0
        try clear hcz23_1
        try clear hcz23_2
        try clear hcz23_3
        try clear hcz25_0
        try clear hcz25_1
        try clear hcz25_2
        try clear hcz28_0
        try clear hcz28_1
        try clear hcz28_2
        try clear hcz28_3
        try clear hcz30_0
        try clear hcz30_1
        try clear hcz30_2
        try clear hcz33_0
        try clear hcz33_1
        try clear hcz33_2
        try clear hcz33_3
        try clear hcz40_0
        try clear hcz40_1
        try clear hcz40_2
        try clear hcz40_3
        try clear hcz45_0
        try clear hcz45_1
        try clear hcz49_0
        try clear hcz49_1
        try clear hcz51_0
        try clear hcz51_1
        try clear hcz51_2
        try clear hfz17_0
        try clear hfz17_1
        try clear hfz17_2
        try clear hfz17_3
        try clear hfz19_0
        try clear hfz19_1
        try clear hfz19_2
        try clear hfz23_0
        try clear hfz23_1
        try clear hfz23_2
        try clear hfz23_3
        try clear hfz25_0
        try clear hfz25_1
        try clear hfz25_2
        try clear hfz28_0
        try clear hfz28_1
        try clear hfz28_2
        try clear hfz28_3
        try clear hfz30_0
        try clear hfz30_1
        try clear hfz30_2
        try clear hfz33_0
        try clear hfz33_1
        try clear hfz33_2
        try clear hfz33_3
        try clear hfz40_0
        try clear hfz40_1
        try clear hfz40_2
        try clear hfz40_3
        try clear hfz45_0
        try clear hfz45_1
        try clear hfz49_0
        try clear hfz49_1
        try clear hfz51_0
        try clear hfz51_1
        try clear hfz51_2
        try clear p2
        obtain ⟨kq, x52_37, rfl, HA, HJ37, BK397, BK398, BK406, HB⟩ := hcut
        cases kq with
        | zero => exact absurd HA.out (by simp [spec_ClassOf.j1])
        | succ kj37 =>
         have H := HA.out
         clear HA
         simp only [spec_ClassOf.j1] at H
         by_cases c52 : x52_37 = true
         · subst c52
           replace H := iT H
           obtain rfl := Option.some.inj H
           go_wp2
           go_ret
           exact ⟨ew, bl3 GE397 GE398 GE406⟩
         · replace c52 := Bool.eq_false_iff.mpr c52
           subst c52
           replace H := iF H
           by_cases c53 : a0_3 = true
           · subst c53
             replace H := iT H
             by_cases c54 : (wrap64 (a0_1 + a4_0)) > a3
             · rw [if_pos c54] at H
               have c54b0 : decide (a3 < (wrap64 (a0_1 + a4_0))) = true := decide_eq_true c54
               clear c54
               obtain rfl := Option.some.inj H
               have hnb55 := NB397_398.out
               have hnc55 := NB398_397.out
               have hnb56 := NB397_406.out
               have hnc56 := NB406_397.out
               obtain ⟨hcz57_0, hcz57_1, hcz57_2, hcz57_3, hfz57_0, hfz57_1, hfz57_2, hfz57_3⟩ := cz4 BK397
               have hnb58 := NB398_406.out
               have hnc58 := NB406_398.out
               obtain ⟨hcz59_0, hcz59_1, hcz59_2, hfz59_0, hfz59_1, hfz59_2⟩ := cz3 BK398
               go_wp2
               go_ret
               exact ⟨ew, bl3 GE397 GE398 GE406⟩
             · rw [if_neg c54] at H
               have c54b0 : decide (a3 < (wrap64 (a0_1 + a4_0))) = false := decide_eq_false c54
               clear c54
               obtain rfl := Option.some.inj H
               have hnb60 := NB397_398.out
               have hnc60 := NB398_397.out
               have hnb61 := NB397_406.out
               have hnc61 := NB406_397.out
               obtain ⟨hcz62_0, hcz62_1, hcz62_2, hcz62_3, hfz62_0, hfz62_1, hfz62_2, hfz62_3⟩ := cz4 BK397
               have hnb63 := NB398_406.out
               have hnc63 := NB406_398.out
               obtain ⟨hcz64_0, hcz64_1, hcz64_2, hfz64_0, hfz64_1, hfz64_2⟩ := cz3 BK398
               go_wp2
               go_ret
               exact ⟨ew, bl3 GE397 GE398 GE406⟩
           · replace c53 := Bool.eq_false_iff.mpr c53
             subst c53
             replace H := iF H
             obtain rfl := Option.some.inj H
             have hnb65 := NB397_398.out
             have hnc65 := NB398_397.out
             have hnb66 := NB397_406.out
             have hnc66 := NB406_397.out
             obtain ⟨hcz67_0, hcz67_1, hcz67_2, hcz67_3, hfz67_0, hfz67_1, hfz67_2, hfz67_3⟩ := cz4 BK397
             go_wp2
             go_ret
             exact ⟨ew, bl3 GE397 GE398 GE406⟩
     · rw [if_neg c36] at H
       have c36b0 : (a0_2 == 0) = false := beq_eq_false_iff_ne.mpr c36
       have c36b1 : (a0_2 != 0) = true := bne_iff_ne.mpr c36
       obtain rfl := Option.some.inj H
       have hnb68 := NB397_398.out
       have hnc68 := NB398_397.out
       obtain ⟨hcz69_0, hcz69_1, hcz69_2, hcz69_3, hfz69_0, hfz69_1, hfz69_2, hfz69_3⟩ := cz4 BK397
       go_wp2
       go_ret
       exact ⟨ew, bl2 GE397 GE398⟩

end Go.Proofs.Ytplekidnlofioaa.Q
namespace Go.Proofs.Ytplekidnlofioaa.Q
open Go.RowKit Go.Proofs.YtplekidnlofioaaW.PrintWords Go.Proofs.YtplekidnlofioaaW.PrintLast Go.Proofs.YtplekidnlofioaaW.PrintMore
attribute [local go_sem] max2_int min2_int max_two min_two max_three min_three max_four min_four   -- for this text's walks alone
set_option linter.unusedVariables false
set_option linter.unusedSimpArgs false

/-! ### spec_ClassesOf: function 33 -/
def spec_ClassesOf.l0 : Nat → List (S147) → List (S81) → ByteArray → Int → List Int → Int → Int → Int → Int → Option (List Int)
 | 0, _, _, _, _, _, _, _, _, _ => none
 | k + 1, x0, x1, x2, x3, x11, x12, x408000, x408001, x408002 => if x12 < (x0.length : Int) then (if 0 ≤ x12 then ((spec_ClassOf.f k ((rd_T147 x0 x12).f0) ((rd_T147 x0 x12).f1) ((rd_T147 x0 x12).f2) ((rd_T147 x0 x12).f3) x1 x2 x3 x408000 x408001 x408002).bind fun t413 => (if t413 < 0 then (some ([] : List Int)) else (if x11.length < 17592186044416 then (spec_ClassesOf.l0 k x0 x1 x2 x3 (x11 ++ [t413]) (wrap64 (x12 + 1)) x408000 x408001 x408002) else (none)))) else (none)) else (some x11)
def spec_ClassesOf.f (k : Nat) (l0 : List (S147)) (l1 : List (S81)) (a2 : ByteArray) (a3 : Int) (a4_0 : Int) (a4_1 : Int) (a4_2 : Int) : Option (List Int) := (spec_PodsOk.f k l0).bind fun t411 => (if t411 = true then (spec_ClassesOf.l0 k l0 l1 a2 a3 (([] : List Int)) 0 a4_0 a4_1 a4_2) else (some ([] : List Int)))
theorem spec_ClassesOf.mono_l : ∀ k, (∀ y0 y1 y2 y3 y4 y5 y6 y7 y8, LeO (spec_ClassesOf.l0 k y0 y1 y2 y3 y4 y5 y6 y7 y8) (spec_ClassesOf.l0 (k + 1) y0 y1 y2 y3 y4 y5 y6 y7 y8))
 | 0 => fun _ _ _ _ _ _ _ _ _ r h => by simp [spec_ClassesOf.l0] at h
 | k + 1 => by
  have ih0 := spec_ClassesOf.mono_l k
  · intro y0 y1 y2 y3 y4 y5 y6 y7 y8
    unfold spec_ClassesOf.l0
    repeat' first
    | (with_reducible exact ih0 _ _ _ _ _ _ _ _ _)
    | (with_reducible exact spec_ClassOf.mono _ _ _ _ _ _ _ _ _ _ _)
    | (with_reducible exact spec_PodsOk.mono _ _)
    | (with_reducible exact LeO.refl _)
    | (with_reducible exact LeO.none _)
    | (with_reducible refine LeO.ite ?_ ?_)
    | (with_reducible refine LeO.bind ?_ (fun _ => ?_))
    | exact ih0 _ _ _ _ _ _ _ _ _
    | exact spec_ClassOf.mono _ _ _ _ _ _ _ _ _ _ _
    | exact spec_PodsOk.mono _ _
    | exact LeO.none _
    | refine LeO.ite ?_ ?_
    | refine LeO.bind ?_ (fun _ => ?_)
theorem spec_ClassesOf.mono : ∀ a0 a1 a2 a3 a4 a5 a6 k, LeO (spec_ClassesOf.f k a0 a1 a2 a3 a4 a5 a6) (spec_ClassesOf.f (k + 1) a0 a1 a2 a3 a4 a5 a6) := by
 intro a0 a1 a2 a3 a4 a5 a6 k
 have ih0 := spec_ClassesOf.mono_l k
 unfold spec_ClassesOf.f
 repeat' first
  | (with_reducible exact ih0 _ _ _ _ _ _ _ _ _)
  | (with_reducible exact spec_ClassOf.mono _ _ _ _ _ _ _ _ _ _ _)
  | (with_reducible exact spec_PodsOk.mono _ _)
  | (with_reducible exact LeO.refl _)
  | (with_reducible exact LeO.none _)
  | (with_reducible refine LeO.ite ?_ ?_)
  | (with_reducible refine LeO.bind ?_ (fun _ => ?_))
  | exact ih0 _ _ _ _ _ _ _ _ _
  | exact spec_ClassOf.mono _ _ _ _ _ _ _ _ _ _ _
  | exact spec_PodsOk.mono _ _
  | exact LeO.none _
  | refine LeO.ite ?_ ?_
  | refine LeO.bind ?_ (fun _ => ?_)
def spec_ClassesOf.T7 : Bool × List (List Nat × List Nat) := (true, [([], []), ([], []), ([0, 1], [0, 1]), ([2], [2]), ([], []), ([], []), ([], []), ([], []), ([3, 4, 5, 6, 7], [3, 4, 5, 6, 7]), ([8, 8, 0, 1, 2, 3, 4, 5, 6, 7, 8], [8])])
def spec_ClassesOf.B7 : List Nat := [0, 0, 3, 7, 0, 0, 0, 0, 255, 511]
theorem spec_ClassesOf.tab7 : rtab .any (opsOf Try.f33 7) = spec_ClassesOf.T7 := by kernel_rfl
theorem spec_ClassesOf.bits7 : waitsOk spec_ClassesOf.T7.2 spec_ClassesOf.B7 = true := by kernel_rfl
set_option maxHeartbeats 8000000 in
set_option maxRecDepth 100000 in
theorem spec_ClassesOf.calls (k : Nat) (A0 : Option Addr) (c0 : Nat) (l0 : List (S147)) (A1 : Option Addr) (c1 : Nat) (l1 : List (S81)) (a2 : ByteArray) (a3 : Int) (a4_0 : Int) (a4_1 : Int) (a4_2 : Int) (r : List Int) (w : World) (hr0 : Kd.C k147 w A0 l0.length l0) (hc0 : l0.length ≤ c0) (hr1 : Kd.C k81 w A1 l1.length l1) (hc1 : l1.length ≤ c1) (h : spec_ClassesOf.f k l0 l1 a2 a3 a4_0 a4_1 a4_2 = some r) :
 Calls Try.prog 33 #[.slice A0 l0.length c0, .slice A1 l1.length c1, .string a2, .int .i64 a3, .agg #[.int .i64 a4_0, .int .i64 a4_1, .int .i64 a4_2]] w fun e w' => ∃ v0_ : Value, e = .returned (v0_) ∧ Kd.R (Kd.int .i64) 3 w' w.heap.size (fun _ => True) v0_ r ∧ Below w.heap.size w w' := by
 have hu61 := Try.underlying61
 have hu147 := Try.underlying147
 have HR0 := Aside0.mk hr0
 have HC0 := Aside0.mk hc0
 clear hr0 hc0
 have HR1 := Aside0.mk hr1
 have HC1 := Aside0.mk hc1
 clear hr1 hc1
 have HB := Aside0.mk (Below.refl w.heap.size w)
 have H : ((spec_PodsOk.f k l0).bind fun t411 => (if t411 = true then (spec_ClassesOf.l0 k l0 l1 a2 a3 (([] : List Int)) 0 a4_0 a4_1 a4_2) else (some ([] : List Int)))) = some r := h
 clear h
 obtain ⟨y408, hy408⟩ : ∃ y_ : List Int, y_ = (([] : List Int)) := ⟨_, rfl⟩
 replace H : ((spec_PodsOk.f k l0).bind fun t411 => (if t411 = true then (spec_ClassesOf.l0 k l0 l1 a2 a3 y408 0 a4_0 a4_1 a4_2) else (some ([] : List Int)))) = some r := by first | (rw [hy408]; with_reducible exact H) | (have H2_ := (Option.bind_some _ _).symm.trans H; rw [hy408]; with_reducible exact H2_) | (have H2_ := (Option.bind_some _ _).symm.trans H; with_reducible exact H2_) | with_reducible exact H | (rw [hy408]; exact H) | exact H
 have Ny408 := Aside0.mk hy408
 clear hy408
 obtain ⟨t411, A60, H⟩ := bo H
 have A6 := Aside0.mk A60
 clear A60
 by_cases c7 : t411 = true
 · subst c7
   replace H := iT H
   have H' := Aside0.mk H
   clear H
   go_enter Try.func33, Try.ntmps33
   go_wp2_with (first | ((with_reducible refine gate_dst (N := 9) rfl ?_); refine bx 9 #[.int .i64 a4_0, .int .i64 a4_1, .int .i64 a4_2] 61 ?_; intro gb407 hg w8 hbox hb; have BK407 := ak hbox; have GW407 := gs hg bl; have GE407 := gs hg bl; replace HB := ak (below_step bl hb); clear hb hbox hg) | ((with_reducible refine gate_dst (N := 14) rfl ?_); refine Kd.R_lit (Kd.int .i64) _ 3 ?hg (N := 14) ?hd (xs := ([] : List Int)) (inner := []) (ok := fun _ => True) (okp := fun _ => True) ?hr ?hp (fun _ hk => hk) trivial (Below.refl _ _) (Nat.le_refl _) (by simp) ?_; (case hd => rfl); (case hg => rfl); (case hr => first | (go_simp; done) | (go_simp; rfl)); (case hp => exact (Reps.none _ _)); intro v409 w9 ho10 hb hg_ hnew_; clear hg_ hnew_; (first | rw [← Ny408.out] at ho10 | (simp only [Int.reduceToNat] at ho10; rw [← Ny408.out] at ho10)); have HO410 := ak (Kd.R_lower ho10 (below_size (bl1 GE407))); replace BK407 := bb BK407 hb; replace HB := ak (below_step (bl1 GE407) hb); clear hb ho10) | ((with_reducible refine gate_callee (f := 86) rfl ?_); refine gl (some 16) Try.func86 #[.slice A0 l0.length c0] ?_; (with_reducible refine (spec_PodsOk.calls k _ _ l0 true _ ?side1 ?side2 A6.out).mono ?_); (case side1 => exact cb HR0); (case side2 => exact HC0.out); rintro e w11 ⟨rfl, hb⟩; refine ⟨_, rfl, ?_⟩; replace HO410 := ak (Kd.R_below (kr HO410) hb); replace BK407 := bb BK407 hb; replace HB := ak (below_step (bl1 GE407) hb); (try clear hb); (try clear hb2); (try clear hk); (try clear hi)))
   go_loopg [11, 12] k (fun kq v11 v12 w' => ∃ (x11_1 : List Int) (x12_1 : Int), v12 = .int .i64 x12_1 ∧ Aside0 (spec_ClassesOf.l0 kq l0 l1 a2 a3 x11_1 x12_1 a4_0 a4_1 a4_2 = some r) ∧ Aside0 (kq ≤ k) ∧ Aside0 (Kd.R (Kd.int .i64) 3 w' w.heap.size (fun _ => True) v11 x11_1) ∧ Aside0 (w'.heap[gb407]? = some (.cells #[.int .i64 a4_0, .int .i64 a4_1, .int .i64 a4_2] 61 (0, 0))) ∧ Aside0 (Below w.heap.size w w'))
   case atStart => exact ⟨(y408), (0), es, H', ⟨Nat.le_refl _⟩, ⟨kr HO410⟩, ⟨bk BK407⟩, ⟨bl1 GE407⟩⟩
   case round =>
    clear H'
    try clear c1
    try clear p2
    try clear c3
    try clear c7
    try clear c8
    obtain ⟨x11_1, x12_1, rfl, HA, HK1, HO_11, BK407, HB⟩ := hrel
    cases gk with
    | zero => exact absurd HA.out (by simp [spec_ClassesOf.l0])
    | succ k1 =>
     have H := HA.out
     clear HA
     simp only [spec_ClassesOf.l0] at H
     by_cases c12 : x12_1 < (l0.length : Int)
     · rw [if_pos c12] at H
       have c12b0 : decide (x12_1 < (l0.length : Int)) = true := decide_eq_true c12
       clear c12
       by_cases c13 : 0 ≤ x12_1
       · rw [if_pos c13] at H
         have c13b0 : decide (0 ≤ x12_1) = true := decide_eq_true c13
         clear c13
         obtain ⟨t413, A140, H⟩ := bo H
         have A14 := Aside0.mk A140
         clear A140
         by_cases c15 : t413 < 0
         · rw [if_pos c15] at H
           have c15b0 : decide (t413 < 0) = true := decide_eq_true c15
           clear c15
           obtain rfl := Option.some.inj H
           try go_wp2
           replace HO_11 := ak (Kd.R_drew HO_11.out)
           replace BK407 := ak (blk_drew BK407.out)
           replace HB := ak (below_drew1 HB.out)
           have p412 : 0 ≤ (x12_1 : Int) := of_decide_eq_true am
           have q412 : x12_1 < (l0.length : Int) := of_decide_eq_true am
           obtain ⟨ad412, e412, hx412_0, hx412_1, hx412_2, hx412_3⟩ := at_T147 HR0.out x12_1 p412 q412
           have hw412_3 := hx412_3
           have hw412_2 := hx412_2
           have hw412_1 := hx412_1
           have hw412_0 := hx412_0
           cases e412
           replace hx412_0 := cw hx412_0
           replace hx412_1 := cw hx412_1
           replace hx412_2 := cw hx412_2
           replace hx412_3 := cw hx412_3
           replace p412 := eq_true p412
           replace q412 := eq_true q412
           refine start_ (n := 10) (S := fun w' => w'.cell? ⟨gb407, 0, none⟩ = some (.int .i64 a4_0) ∧ w'.cell? ⟨gb407, 1, none⟩ = some (.int .i64 a4_1) ∧ w'.cell? ⟨gb407, 2, none⟩ = some (.int .i64 a4_2) ∧ w'.cell? (ad412.add ((x12_1).toNat * 4)) = some (.string ((rd_T147 l0 x12_1).f0)) ∧ w'.cell? ⟨(ad412.add ((x12_1).toNat * 4)).block, (ad412.add ((x12_1).toNat * 4)).off + 1, none⟩ = some (.int .i64 ((rd_T147 l0 x12_1).f1)) ∧ w'.cell? ⟨(ad412.add ((x12_1).toNat * 4)).block, (ad412.add ((x12_1).toNat * 4)).off + 2, none⟩ = some (.int .i64 ((rd_T147 l0 x12_1).f2)) ∧ w'.cell? ⟨(ad412.add ((x12_1).toNat * 4)).block, (ad412.add ((x12_1).toNat * 4)).off + 3, none⟩ = some (.bool ((rd_T147 l0 x12_1).f3))) (ds := []) (bitsA 10 0) (by kernel_rfl) rfl rfl ⟨bc BK407 0, bc BK407 1, bc BK407 2, (cw hw412_0), (cw hw412_1), (cw hw412_2), (cw hw412_3)⟩ (fun hHeld => ?_); refine with_tabW spec_ClassesOf.tab7 spec_ClassesOf.bits7 (fun HT_ HW_ => ?_)
           generalize wr.drew = w16 at HO_11 BK407 HB hx412_0 hx412_1 hx412_2 hx412_3 hHeld ⊢
           refine pu 0 (some 24) (bitsA 10 1) ?_
           refine pu 1 (some 25) (bitsA 10 3) ?_
           refine pu 2 (some 26) (bitsA 10 7) ?_
           refine tk 3 (some 27) (bitsA 10 15) hHeld ?_ (hy := Or.inl ⟨by rfl, by rintro w' ⟨s0, s1, s2, s3, s4, s5, s6⟩; go_simp; with_reducible rfl⟩)
           refine pu 4 (some 28) (bitsA 10 31) ?_
           refine pu 5 (some 29) (bitsA 10 63) ?_
           refine pu 6 (some 30) (bitsA 10 127) ?_
           refine tk 7 (some 31) (bitsA 10 255) hHeld ?_ (hy := Or.inl ⟨by rfl, by rintro w' ⟨s0, s1, s2, s3, s4, s5, s6⟩; go_simp; with_reducible rfl⟩)
           refine one_ (i := 8) (N := some 32) (bitsA 10 511) rfl rfl (one_of HT_.out (by kernel_rfl)) (by decide) (fun K hK => ?_)
           refine goes_ Try.func87 (by kernel_rfl) rfl #[.agg #[.string ((rd_T147 l0 x12_1).f0), .int .i64 ((rd_T147 l0 x12_1).f1), .int .i64 ((rd_T147 l0 x12_1).f2), .bool ((rd_T147 l0 x12_1).f3)], .slice A1 l1.length c1, .string a2, .int .i64 a3, .agg #[.int .i64 a4_0, .int .i64 a4_1, .int .i64 a4_2]] (by rfl) rfl rfl mt ?_
           with_reducible refine (spec_ClassOf.calls k1 ((rd_T147 l0 x12_1).f0) ((rd_T147 l0 x12_1).f1) ((rd_T147 l0 x12_1).f2) ((rd_T147 l0 x12_1).f3) _ _ l1 a2 a3 a4_0 a4_1 a4_2 t413 _ ?side1 ?side2 A14.out).mono ?_
           (case side1 => exact cb HR1)
           (case side2 => exact HC1.out)
           rintro e w17 ⟨rfl, hb⟩
           refine ⟨_, rfl, ?_⟩
           replace HO_11 := ak (Kd.R_below (kr HO_11) hb)
           replace BK407 := bb BK407 hb
           replace HB := ak (below_step (bl1 GE407) hb)
           (try clear hb)
           (try clear hb2)
           (try clear hk)
           (try clear hi)
           refine hK.out _ _ ⟨bc BK407 0, bc BK407 1, bc BK407 2, (cw hw412_0), (cw hw412_1), (cw hw412_2), (cw hw412_3)⟩ (fun hHeld => ?_)
           clear hK K
           refine nm ?_
           refine pu 9 (some 13) (bitsA 10 1023) ?_
           refine done_ (done_of HT_.out (by kernel_rfl)) ?_
           try go_wp2
           go_ret
           exact ⟨_, ew, by first | exact Kd.R_nil _ _ _ _ _ | exact Kd.N_nil _ _ _ _ _ | exact Kd.V_nil _ _ _ _ _ | exact Kd.Q_nil _ _ _ _ _ | exact Kd.S_nil _ _ _ _ _, bl1 GE407⟩
         · rw [if_neg c15] at H
           have c15b0 : decide (t413 < 0) = false := decide_eq_false c15
           clear c15
           by_cases c18 : x11_1.length < 17592186044416
           · rw [if_pos c18] at H
             have LMc18 := Aside0.mk c18
             clear c18
             obtain ⟨y414, hy414⟩ : ∃ y_ : List Int, y_ = (x11_1 ++ [t413]) := ⟨_, rfl⟩
             replace H : (spec_ClassesOf.l0 k1 l0 l1 a2 a3 y414 (wrap64 (x12_1 + 1)) a4_0 a4_1 a4_2) = some r := by first | (rw [hy414]; with_reducible exact H) | (have H2_ := (Option.bind_some _ _).symm.trans H; rw [hy414]; with_reducible exact H2_) | (have H2_ := (Option.bind_some _ _).symm.trans H; with_reducible exact H2_) | with_reducible exact H | (rw [hy414]; exact H) | exact H
             have Ny414 := Aside0.mk hy414
             clear hy414
             have H' := Aside0.mk H
             clear H
             try go_wp2
             replace HO_11 := ak (Kd.R_drew HO_11.out)
             replace BK407 := ak (blk_drew BK407.out)
             replace HB := ak (below_drew1 HB.out)
             have p412 : 0 ≤ (x12_1 : Int) := of_decide_eq_true am
             have q412 : x12_1 < (l0.length : Int) := of_decide_eq_true am
             obtain ⟨ad412, e412, hx412_0, hx412_1, hx412_2, hx412_3⟩ := at_T147 HR0.out x12_1 p412 q412
             have hw412_3 := hx412_3
             have hw412_2 := hx412_2
             have hw412_1 := hx412_1
             have hw412_0 := hx412_0
             cases e412
             replace hx412_0 := cw hx412_0
             replace hx412_1 := cw hx412_1
             replace hx412_2 := cw hx412_2
             replace hx412_3 := cw hx412_3
             replace p412 := eq_true p412
             replace q412 := eq_true q412
             refine start_ (n := 10) (S := fun w' => w'.cell? ⟨gb407, 0, none⟩ = some (.int .i64 a4_0) ∧ w'.cell? ⟨gb407, 1, none⟩ = some (.int .i64 a4_1) ∧ w'.cell? ⟨gb407, 2, none⟩ = some (.int .i64 a4_2) ∧ w'.cell? (ad412.add ((x12_1).toNat * 4)) = some (.string ((rd_T147 l0 x12_1).f0)) ∧ w'.cell? ⟨(ad412.add ((x12_1).toNat * 4)).block, (ad412.add ((x12_1).toNat * 4)).off + 1, none⟩ = some (.int .i64 ((rd_T147 l0 x12_1).f1)) ∧ w'.cell? ⟨(ad412.add ((x12_1).toNat * 4)).block, (ad412.add ((x12_1).toNat * 4)).off + 2, none⟩ = some (.int .i64 ((rd_T147 l0 x12_1).f2)) ∧ w'.cell? ⟨(ad412.add ((x12_1).toNat * 4)).block, (ad412.add ((x12_1).toNat * 4)).off + 3, none⟩ = some (.bool ((rd_T147 l0 x12_1).f3))) (ds := []) (bitsA 10 0) (by kernel_rfl) rfl rfl ⟨bc BK407 0, bc BK407 1, bc BK407 2, (cw hw412_0), (cw hw412_1), (cw hw412_2), (cw hw412_3)⟩ (fun hHeld => ?_); refine with_tabW spec_ClassesOf.tab7 spec_ClassesOf.bits7 (fun HT_ HW_ => ?_)
             generalize wr.drew = w19 at HO_11 BK407 HB hx412_0 hx412_1 hx412_2 hx412_3 hHeld ⊢
             refine pu 0 (some 24) (bitsA 10 1) ?_
             refine pu 1 (some 25) (bitsA 10 3) ?_
             refine pu 2 (some 26) (bitsA 10 7) ?_
             refine tk 3 (some 27) (bitsA 10 15) hHeld ?_ (hy := Or.inl ⟨by rfl, by rintro w' ⟨s0, s1, s2, s3, s4, s5, s6⟩; go_simp; with_reducible rfl⟩)
             refine pu 4 (some 28) (bitsA 10 31) ?_
             refine pu 5 (some 29) (bitsA 10 63) ?_
             refine pu 6 (some 30) (bitsA 10 127) ?_
             refine tk 7 (some 31) (bitsA 10 255) hHeld ?_ (hy := Or.inl ⟨by rfl, by rintro w' ⟨s0, s1, s2, s3, s4, s5, s6⟩; go_simp; with_reducible rfl⟩)
             refine one_ (i := 8) (N := some 32) (bitsA 10 511) rfl rfl (one_of HT_.out (by kernel_rfl)) (by decide) (fun K hK => ?_)
             refine goes_ Try.func87 (by kernel_rfl) rfl #[.agg #[.string ((rd_T147 l0 x12_1).f0), .int .i64 ((rd_T147 l0 x12_1).f1), .int .i64 ((rd_T147 l0 x12_1).f2), .bool ((rd_T147 l0 x12_1).f3)], .slice A1 l1.length c1, .string a2, .int .i64 a3, .agg #[.int .i64 a4_0, .int .i64 a4_1, .int .i64 a4_2]] (by rfl) rfl rfl mt ?_
             with_reducible refine (spec_ClassOf.calls k1 ((rd_T147 l0 x12_1).f0) ((rd_T147 l0 x12_1).f1) ((rd_T147 l0 x12_1).f2) ((rd_T147 l0 x12_1).f3) _ _ l1 a2 a3 a4_0 a4_1 a4_2 t413 _ ?side1 ?side2 A14.out).mono ?_
             (case side1 => exact cb HR1)
             (case side2 => exact HC1.out)
             rintro e w20 ⟨rfl, hb⟩
             refine ⟨_, rfl, ?_⟩
             replace HO_11 := ak (Kd.R_below (kr HO_11) hb)
             replace BK407 := bb BK407 hb
             replace HB := ak (below_step (bl1 GE407) hb)
             (try clear hb)
             (try clear hb2)
             (try clear hk)
             (try clear hi)
             refine hK.out _ _ ⟨bc BK407 0, bc BK407 1, bc BK407 2, (cw hw412_0), (cw hw412_1), (cw hw412_2), (cw hw412_3)⟩ (fun hHeld => ?_)
             clear hK K
             refine nm ?_
             refine pu 9 (some 13) (bitsA 10 1023) ?_
             refine done_ (done_of HT_.out (by kernel_rfl)) ?_
             try go_wp2_with (first | ((with_reducible refine gate_builtin (b := .append) (xs := #[.tmp 35, .tmp 37]) rfl ?_); at_builtin; refine Kd.R_append (Kd.int .i64) (w0 := w) w.heap.size rfl (.tmp 35) (.tmp 37) 25 3 (.int .i64 0) 8 rfl Try.underlying25 info3 rfl (by decide) (by omega) u11 x11_1 t413 [.int .i64 t413] (fun _ => True) (fun _ => False) rfl rfl ?aP (fun _ hk => hk.elim) ?aF ?aO ?aB ?aS ?aL ?_; (case aP => exact rfl); (case aB => exact (bl1 GE407)); (case aF => exact (fun _ _ => trivial)); (case aO => exact (kr HO_11)); (case aS => exact (below_size (bl1 GE407))); (case aL => have := LMc18.out; omega); intro v415 w21 ho hb hg hat; rw [← Ny414.out] at ho; replace BK407 := ak (blk_grown (g := gb407) (o := .cells #[.int .i64 a4_0, .int .i64 a4_1, .int .i64 a4_2] 61 (0, 0)) (bk BK407) hg (Kd.R_ne HO_11.out BK407.out (by decide))); replace HB := ak hb; have HO416 := ak ho; clear HO_11; clear ho hb hg hat))
             go_roundg k1
             case measure => have := HK1.out; omega
             case rel => exact ⟨(y414), (wrap64 (x12_1 + 1)), es, H', ⟨kp⟩, ⟨kr HO416⟩, ⟨bk BK407⟩, ⟨bl1 GE407⟩⟩
           · rw [if_neg c18] at H
             exact absurd H (by simp)
       · rw [if_neg c13] at H
         exact absurd H (by simp)
     · rw [if_neg c12] at H
       have c12b0 : decide (x12_1 < (l0.length : Int)) = false := decide_eq_false c12
       clear c12
       obtain rfl := Option.some.inj H
       go_wp2
       go_ret
       exact ⟨_, ew, kr HO_11, bl1 GE407⟩
 · replace c7 := Bool.eq_false_iff.mpr c7
   subst c7
   replace H := iF H
   obtain rfl := Option.some.inj H
   go_enter Try.func33, Try.ntmps33
   go_wp2_with (first | ((with_reducible refine gate_dst (N := 9) rfl ?_); refine bx 9 #[.int .i64 a4_0, .int .i64 a4_1, .int .i64 a4_2] 61 ?_; intro gb407 hg w22 hbox hb; have BK407 := ak hbox; have GW407 := gs hg bl; have GE407 := gs hg bl; replace HB := ak (below_step bl hb); clear hb hbox hg) | ((with_reducible refine gate_dst (N := 14) rfl ?_); refine Kd.R_lit (Kd.int .i64) _ 3 ?hg (N := 14) ?hd (xs := ([] : List Int)) (inner := []) (ok := fun _ => True) (okp := fun _ => True) ?hr ?hp (fun _ hk => hk) trivial (Below.refl _ _) (Nat.le_refl _) (by simp) ?_; (case hd => rfl); (case hg => rfl); (case hr => first | (go_simp; done) | (go_simp; rfl)); (case hp => exact (Reps.none _ _)); intro v409 w23 ho24 hb hg_ hnew_; clear hg_ hnew_; (first | rw [← Ny408.out] at ho24 | (simp only [Int.reduceToNat] at ho24; rw [← Ny408.out] at ho24)); have HO410 := ak (Kd.R_lower ho24 (below_size (bl1 GE407))); replace BK407 := bb BK407 hb; replace HB := ak (below_step (bl1 GE407) hb); clear hb ho24) | ((with_reducible refine gate_callee (f := 86) rfl ?_); refine gl (some 16) Try.func86 #[.slice A0 l0.length c0] ?_; (with_reducible refine (spec_PodsOk.calls k _ _ l0 false _ ?side1 ?side2 A6.out).mono ?_); (case side1 => exact cb HR0); (case side2 => exact HC0.out); rintro e w25 ⟨rfl, hb⟩; refine ⟨_, rfl, ?_⟩; replace HO410 := ak (Kd.R_below (kr HO410) hb); replace BK407 := bb BK407 hb; replace HB := ak (below_step (bl1 GE407) hb); (try clear hb); (try clear hb2); (try clear hk); (try clear hi)))
   go_ret
   exact ⟨_, ew, by first | exact Kd.R_nil _ _ _ _ _ | exact Kd.N_nil _ _ _ _ _ | exact Kd.V_nil _ _ _ _ _ | exact Kd.Q_nil _ _ _ _ _ | exact Kd.S_nil _ _ _ _ _, bl1 GE407⟩

end Go.Proofs.Ytplekidnlofioaa.Q
namespace Go.Proofs.Ytplekidnlofioaa.Q
open Go.RowKit Go.Proofs.YtplekidnlofioaaW.PrintWords Go.Proofs.YtplekidnlofioaaW.PrintLast Go.Proofs.YtplekidnlofioaaW.PrintMore
attribute [local go_sem] max2_int min2_int max_two min_two max_three min_three max_four min_four   -- for this text's walks alone
set_option linter.unusedVariables false
set_option linter.unusedSimpArgs false

/-! ### spec_TallyOf: function 52 -/
mutual
def spec_TallyOf.j0 : Nat → List (S147) → List (S81) → ByteArray → Int → List Int → Bool → Int → Int → Int → Option (Int × Int × Int × Int × Bool)
 | 0, _, _, _, _, _, _, _, _, _ => none
 | k + 1, x0, x1, x2, x3, x12, x37, x822000, x822001, x822002 => if x37 = true then (some (0, 0, 0, 0, false)) else ((spec_CountClass.f k x12 0).bind fun t827 => ((spec_CountClass.f k x12 1).bind fun t828 => ((spec_CountClass.f k x12 2).bind fun t829 => (spec_TallyOf.l0 k x0 x1 x2 x3 x12 (([] : List Int)) 0 x822000 x822001 x822002 t827 t828 t829 0))))
def spec_TallyOf.l0 : Nat → List (S147) → List (S81) → ByteArray → Int → List Int → List Int → Int → Int → Int → Int → Int → Int → Int → Int → Option (Int × Int × Int × Int × Bool)
 | 0, _, _, _, _, _, _, _, _, _, _, _, _, _, _ => none
 | k + 1, x0, x1, x2, x3, x12, x14, x15, x822000, x822001, x822002, x831000, x831001, x831002, x831003 => if x15 < (x0.length : Int) then (if 0 ≤ x15 then (if x15 < (x12.length : Int) then (if (rd x12 x15) = 0 then ((spec_AverageOf.f k x1 ((rd_T147 x0 x15).f0) x2 (wrap64 (x3 - x822002)) x3).bind fun bt838 => (if bt838.2 = true then (if x14.length < 17592186044416 then (spec_TallyOf.l0 k x0 x1 x2 x3 x12 (x14 ++ [bt838.1]) (wrap64 (x15 + 1)) x822000 x822001 x822002 x831000 x831001 x831002 x831003) else (none)) else ((spec_LatestOf.f k x1 ((rd_T147 x0 x15).f0) x2).bind fun bt844 => (if x14.length < 17592186044416 then (spec_TallyOf.l0 k x0 x1 x2 x3 x12 (x14 ++ [bt844.2.1]) (wrap64 (x15 + 1)) x822000 x822001 x822002 x831000 x831001 x831002 x831003) else (none))))) else (spec_TallyOf.l0 k x0 x1 x2 x3 x12 x14 (wrap64 (x15 + 1)) x822000 x822001 x822002 x831000 x831001 x831002 x831003)) else (none)) else (none)) else ((spec_AddValues.f k x14).bind fun bt834 => (if bt834.2 = true then (some (0, 0, 0, 0, false)) else (some (x831000, x831001, x831002, bt834.1, true))))
end
def spec_TallyOf.f (k : Nat) (l0 : List (S147)) (l1 : List (S81)) (a2 : ByteArray) (a3 : Int) (a4_0 : Int) (a4_1 : Int) (a4_2 : Int) : Option (Int × Int × Int × Int × Bool) := (spec_ClassesOf.f k l0 l1 a2 a3 a4_0 a4_1 a4_2).bind fun t823 => ((spec_PodsOk.f k l0).bind fun t826 => (if t826 = true then (spec_TallyOf.j0 k l0 l1 a2 a3 t823 ((t823.length : Int) != (l0.length : Int)) a4_0 a4_1 a4_2) else (spec_TallyOf.j0 k l0 l1 a2 a3 t823 true a4_0 a4_1 a4_2)))
theorem spec_TallyOf.mono_l : ∀ k, (∀ y0 y1 y2 y3 y4 y5 y6 y7 y8, LeO (spec_TallyOf.j0 k y0 y1 y2 y3 y4 y5 y6 y7 y8) (spec_TallyOf.j0 (k + 1) y0 y1 y2 y3 y4 y5 y6 y7 y8)) ∧ (∀ y0 y1 y2 y3 y4 y5 y6 y7 y8 y9 y10 y11 y12 y13, LeO (spec_TallyOf.l0 k y0 y1 y2 y3 y4 y5 y6 y7 y8 y9 y10 y11 y12 y13) (spec_TallyOf.l0 (k + 1) y0 y1 y2 y3 y4 y5 y6 y7 y8 y9 y10 y11 y12 y13))
 | 0 => ⟨fun _ _ _ _ _ _ _ _ _ r h => by simp [spec_TallyOf.j0] at h, fun _ _ _ _ _ _ _ _ _ _ _ _ _ _ r h => by simp [spec_TallyOf.l0] at h⟩
 | k + 1 => by
  obtain ⟨ih0, ih1⟩ := spec_TallyOf.mono_l k
  refine ⟨?_, ?_⟩
  · intro y0 y1 y2 y3 y4 y5 y6 y7 y8
    unfold spec_TallyOf.j0
    repeat' first
    | (with_reducible exact ih0 _ _ _ _ _ _ _ _ _)
    | (with_reducible exact ih1 _ _ _ _ _ _ _ _ _ _ _ _ _ _)
    | (with_reducible exact spec_AddValues.mono _ _)
    | (with_reducible exact spec_AverageOf.mono _ _ _ _ _ _)
    | (with_reducible exact spec_ClassesOf.mono _ _ _ _ _ _ _ _)
    | (with_reducible exact spec_CountClass.mono _ _ _)
    | (with_reducible exact spec_LatestOf.mono _ _ _ _)
    | (with_reducible exact spec_PodsOk.mono _ _)
    | (with_reducible exact LeO.refl _)
    | (with_reducible exact LeO.none _)
    | (with_reducible refine LeO.ite ?_ ?_)
    | (with_reducible refine LeO.bind ?_ (fun _ => ?_))
    | exact ih0 _ _ _ _ _ _ _ _ _
    | exact ih1 _ _ _ _ _ _ _ _ _ _ _ _ _ _
    | exact spec_AddValues.mono _ _
    | exact spec_AverageOf.mono _ _ _ _ _ _
    | exact spec_ClassesOf.mono _ _ _ _ _ _ _ _
    | exact spec_CountClass.mono _ _ _
    | exact spec_LatestOf.mono _ _ _ _
    | exact spec_PodsOk.mono _ _
    | exact LeO.none _
    | refine LeO.ite ?_ ?_
    | refine LeO.bind ?_ (fun _ => ?_)
  · intro y0 y1 y2 y3 y4 y5 y6 y7 y8 y9 y10 y11 y12 y13
    unfold spec_TallyOf.l0
    repeat' first
    | (with_reducible exact ih0 _ _ _ _ _ _ _ _ _)
    | (with_reducible exact ih1 _ _ _ _ _ _ _ _ _ _ _ _ _ _)
    | (with_reducible exact spec_AddValues.mono _ _)
    | (with_reducible exact spec_AverageOf.mono _ _ _ _ _ _)
    | (with_reducible exact spec_ClassesOf.mono _ _ _ _ _ _ _ _)
    | (with_reducible exact spec_CountClass.mono _ _ _)
    | (with_reducible exact spec_LatestOf.mono _ _ _ _)
    | (with_reducible exact spec_PodsOk.mono _ _)
    | (with_reducible exact LeO.refl _)
    | (with_reducible exact LeO.none _)
    | (with_reducible refine LeO.ite ?_ ?_)
    | (with_reducible refine LeO.bind ?_ (fun _ => ?_))
    | exact ih0 _ _ _ _ _ _ _ _ _
    | exact ih1 _ _ _ _ _ _ _ _ _ _ _ _ _ _
    | exact spec_AddValues.mono _ _
    | exact spec_AverageOf.mono _ _ _ _ _ _
    | exact spec_ClassesOf.mono _ _ _ _ _ _ _ _
    | exact spec_CountClass.mono _ _ _
    | exact spec_LatestOf.mono _ _ _ _
    | exact spec_PodsOk.mono _ _
    | exact LeO.none _
    | refine LeO.ite ?_ ?_
    | refine LeO.bind ?_ (fun _ => ?_)
theorem spec_TallyOf.mono : ∀ a0 a1 a2 a3 a4 a5 a6 k, LeO (spec_TallyOf.f k a0 a1 a2 a3 a4 a5 a6) (spec_TallyOf.f (k + 1) a0 a1 a2 a3 a4 a5 a6) := by
 intro a0 a1 a2 a3 a4 a5 a6 k
 obtain ⟨ih0, ih1⟩ := spec_TallyOf.mono_l k
 unfold spec_TallyOf.f
 repeat' first
  | (with_reducible exact ih0 _ _ _ _ _ _ _ _ _)
  | (with_reducible exact ih1 _ _ _ _ _ _ _ _ _ _ _ _ _ _)
  | (with_reducible exact spec_AddValues.mono _ _)
  | (with_reducible exact spec_AverageOf.mono _ _ _ _ _ _)
  | (with_reducible exact spec_ClassesOf.mono _ _ _ _ _ _ _ _)
  | (with_reducible exact spec_CountClass.mono _ _ _)
  | (with_reducible exact spec_LatestOf.mono _ _ _ _)
  | (with_reducible exact spec_PodsOk.mono _ _)
  | (with_reducible exact LeO.refl _)
  | (with_reducible exact LeO.none _)
  | (with_reducible refine LeO.ite ?_ ?_)
  | (with_reducible refine LeO.bind ?_ (fun _ => ?_))
  | exact ih0 _ _ _ _ _ _ _ _ _
  | exact ih1 _ _ _ _ _ _ _ _ _ _ _ _ _ _
  | exact spec_AddValues.mono _ _
  | exact spec_AverageOf.mono _ _ _ _ _ _
  | exact spec_ClassesOf.mono _ _ _ _ _ _ _ _
  | exact spec_CountClass.mono _ _ _
  | exact spec_LatestOf.mono _ _ _ _
  | exact spec_PodsOk.mono _ _
  | exact LeO.none _
  | refine LeO.ite ?_ ?_
  | refine LeO.bind ?_ (fun _ => ?_)
def spec_TallyOf.T10 : Bool × List (List Nat × List Nat) := (true, [([], []), ([], []), ([], []), ([1, 2], [1, 2]), ([3], [3]), ([4], [4]), ([], []), ([], []), ([], []), ([8], [8]), ([7, 9], [7, 9]), ([], []), ([0, 5, 6, 10, 11], [0, 5, 6, 10, 11]), ([12], [12]), ([13], [13]), ([13], [13]), ([14, 12, 0, 1, 2, 3, 4, 5, 6, 7, 8, 9, 10, 11, 12, 13, 14], [14]), ([15, 16, 0, 1, 2, 3, 4, 5, 6, 7, 8, 9, 10, 11, 12, 13, 14, 15, 16], [15])])
def spec_TallyOf.B10 : List Nat := [0, 0, 0, 6, 14, 30, 0, 0, 0, 256, 896, 0, 4095, 8191, 16383, 16383, 32767, 131071]
theorem spec_TallyOf.tab10 : rtab .any (opsOf Try.f52 10) = spec_TallyOf.T10 := by kernel_rfl
theorem spec_TallyOf.bits10 : waitsOk spec_TallyOf.T10.2 spec_TallyOf.B10 = true := by kernel_rfl
set_option maxHeartbeats 8000000 in
set_option maxRecDepth 100000 in
theorem spec_TallyOf.calls (k : Nat) (A0 : Option Addr) (c0 : Nat) (l0 : List (S147)) (A1 : Option Addr) (c1 : Nat) (l1 : List (S81)) (a2 : ByteArray) (a3 : Int) (a4_0 : Int) (a4_1 : Int) (a4_2 : Int) (r1 : Int) (r2 : Int) (r3 : Int) (r4 : Int) (r5 : Bool) (w : World) (hr0 : Kd.C k147 w A0 l0.length l0) (hc0 : l0.length ≤ c0) (hr1 : Kd.C k81 w A1 l1.length l1) (hc1 : l1.length ≤ c1) (h : spec_TallyOf.f k l0 l1 a2 a3 a4_0 a4_1 a4_2 = some (r1, r2, r3, r4, r5)) :
 Calls Try.prog 52 #[.slice A0 l0.length c0, .slice A1 l1.length c1, .string a2, .int .i64 a3, .agg #[.int .i64 a4_0, .int .i64 a4_1, .int .i64 a4_2]] w fun e w' => e = .returned (.tuple #[.agg #[.int .i64 r1, .int .i64 r2, .int .i64 r3, .int .i64 r4], .bool r5]) ∧ Below w.heap.size w w' := by
 have hu61 := Try.underlying61
 have hu83 := Try.underlying83
 have hu37 := Try.underlying37
 have HR0 := Aside0.mk hr0
 have HC0 := Aside0.mk hc0
 clear hr0 hc0
 have HR1 := Aside0.mk hr1
 have HC1 := Aside0.mk hc1
 clear hr1 hc1
 have HB := Aside0.mk (Below.refl w.heap.size w)
 have H : ((spec_ClassesOf.f k l0 l1 a2 a3 a4_0 a4_1 a4_2).bind fun t823 => ((spec_PodsOk.f k l0).bind fun t826 => (if t826 = true then (spec_TallyOf.j0 k l0 l1 a2 a3 t823 ((t823.length : Int) != (l0.length : Int)) a4_0 a4_1 a4_2) else (spec_TallyOf.j0 k l0 l1 a2 a3 t823 true a4_0 a4_1 a4_2)))) = some (r1, r2, r3, r4, r5) := h
 clear h
 obtain ⟨t823, A60, H⟩ := bo H
 have A6 := Aside0.mk A60
 clear A60
 have HC7 := Aside0.mk H
 clear H
 go_enter Try.func52, Try.ntmps52
 go_upto_region 2 with (first | ((with_reducible refine gate_dst (N := 9) rfl ?_); (try (refine gate_guard (by rfl) ?_; dsimp only)); refine bx 9 #[.int .i64 a4_0, .int .i64 a4_1, .int .i64 a4_2] 61 ?_; intro gb821 hg w8 hbox hb; have BK821 := ak hbox; have GW821 := gs hg bl; have GE821 := gs hg bl; replace HB := ak (below_step bl hb); clear hb hbox hg) | ((with_reducible refine gate_dst (N := 10) rfl ?_); (try (refine gate_guard (by rfl) ?_; dsimp only)); refine bx 10 #[.int .i64 0, .int .i64 0, .int .i64 0, .int .i64 0] 83 ?_; intro gb822 hg w9 hbox hb; have BK822 := ak hbox; have GW822 := gs hg (bl1 GE821); have GE822 := gs hg (bl1 GE821); replace HB := ak (below_step (bl1 GE821) hb); have NB821_822 := nl hg BK821; have NB822_821 := ng hg BK821; replace BK821 := bb BK821 hb; clear hb hbox hg; have hnb10 := NB821_822.out; have hnc10 := NB822_821.out; obtain ⟨hcz11_0, hcz11_1, hcz11_2, hfz11_0, hfz11_1, hfz11_2⟩ := cz3 BK821) | ((with_reducible refine gate_callee (f := 33) rfl ?_); refine gl (some 27) Try.func33 #[.slice A0 l0.length c0, .slice A1 l1.length c1, .string a2, .int .i64 a3, .agg #[.int .i64 a4_0, .int .i64 a4_1, .int .i64 a4_2]] ?_; (with_reducible refine (spec_ClassesOf.calls k _ _ l0 _ _ l1 a2 a3 a4_0 a4_1 a4_2 t823 _ ?side1 ?side2 ?side3 ?side4 A6.out).mono ?_); (case side1 => exact cb HR0); (case side2 => exact HC0.out); (case side3 => exact cb HR1); (case side4 => exact HC1.out); rintro e w12 ⟨v824, rfl, ho0, hb⟩; refine ⟨_, rfl, ?_⟩; have HO825 := ak (Kd.R_lower ho0 (below_size (bl2 GE821 GE822))); replace BK821 := bb BK821 hb; replace BK822 := bb BK822 hb; replace HB := ak (below_step (bl2 GE821 GE822) hb); (try clear hb); (try clear hb2); (try clear hk); (try clear hi); (try clear ho0)))
 (try simp only [Act.put, List.setIfInBounds_toArray, List.set_cons_zero, List.set_cons_succ])
 go_cut [37] (fun v37 wc => ∃ (kq : Nat) (x37_6 : Bool), v37 = .bool x37_6 ∧ Aside0 (spec_TallyOf.j0 kq l0 l1 a2 a3 t823 x37_6 a4_0 a4_1 a4_2 = some (r1, r2, r3, r4, r5)) ∧ Aside0 (kq ≤ k) ∧ Aside0 (Kd.R (Kd.int .i64) 3 wc w.heap.size (fun _ => True) v824 t823) ∧ Aside0 (wc.heap[gb821]? = some (.cells #[.int .i64 a4_0, .int .i64 a4_1, .int .i64 a4_2] 61 (0, 0))) ∧ Aside0 (wc.heap[gb822]? = some (.cells #[.int .i64 0, .int .i64 0, .int .i64 0, .int .i64 0] 83 (0, 0))) ∧ Aside0 (Below w.heap.size w wc))
 case first =>
  have H := HC7.out
  clear HC7
  obtain ⟨t826, A130, H⟩ := bo H
  have A13 := Aside0.mk A130
  clear A130
  by_cases c14 : t826 = true
  · subst c14
    replace H := iT H
    have H' := Aside0.mk H
    clear H
    go_wp2_with (first | ((with_reducible refine gate_callee (f := 86) rfl ?_); refine gl (some 29) Try.func86 #[.slice A0 l0.length c0] ?_; (with_reducible refine (spec_PodsOk.calls k _ _ l0 true _ ?side1 ?side2 A13.out).mono ?_); (case side1 => exact cb HR0); (case side2 => exact HC0.out); rintro e w15 ⟨rfl, hb⟩; refine ⟨_, rfl, ?_⟩; replace HO825 := ak (Kd.R_below (kr HO825) hb); replace BK821 := bb BK821 hb; replace BK822 := bb BK822 hb; replace HB := ak (below_step (bl2 GE821 GE822) hb); (try clear hb); (try clear hb2); (try clear hk); (try clear hi); obtain ⟨Ao16, co16, eo16⟩ := Kd.R_slice HO825.out; subst eo16))
    go_meet
    case rel => exact ⟨_, (((t823.length : Int) != (l0.length : Int))), es, H', ⟨by first | omega | exact Nat.le_refl _⟩, ⟨kr HO825⟩, ⟨bk BK821⟩, ⟨bk BK822⟩, ⟨bl2 GE821 GE822⟩⟩
  · replace c14 := Bool.eq_false_iff.mpr c14
    subst c14
    replace H := iF H
    have H' := Aside0.mk H
    clear H
    go_wp2_with (first | ((with_reducible refine gate_callee (f := 86) rfl ?_); refine gl (some 29) Try.func86 #[.slice A0 l0.length c0] ?_; (with_reducible refine (spec_PodsOk.calls k _ _ l0 false _ ?side1 ?side2 A13.out).mono ?_); (case side1 => exact cb HR0); (case side2 => exact HC0.out); rintro e w17 ⟨rfl, hb⟩; refine ⟨_, rfl, ?_⟩; replace HO825 := ak (Kd.R_below (kr HO825) hb); replace BK821 := bb BK821 hb; replace BK822 := bb BK822 hb; replace HB := ak (below_step (bl2 GE821 GE822) hb); (try clear hb); (try clear hb2); (try clear hk); (try clear hi)))
    go_meet
    case rel => exact ⟨_, (true), es, H', ⟨by first | omega | exact Nat.le_refl _⟩, ⟨kr HO825⟩, ⟨bk BK821⟩, ⟨bk BK822⟩, ⟨bl2 GE821 GE822⟩⟩
 case rest =>
  clear HC7
  try clear c1
  try clear p2
  try clear c3
  try clear c5
  try clear c8
  try clear c10
  try clear c14
  try clear hcz11_0
  try clear hcz11_1
  try clear hcz11_2
  try clear hfz11_0
  try clear hfz11_1
  try clear hfz11_2
  obtain ⟨kq, x37_6, rfl, HA, HJ6, HO_12, BK821, BK822, HB⟩ := hcut
  cases kq with
  | zero => exact absurd HA.out (by simp [spec_TallyOf.j0])
  | succ kj6 =>
   have H := HA.out
   clear HA
   simp only [spec_TallyOf.j0] at H
   by_cases c18 : x37_6 = true
   · subst c18
     replace H := iT H
     simp only [Option.some.injEq, Prod.mk.injEq] at H
     obtain ⟨rfl, rfl, rfl, rfl, rfl⟩ := H
     have hnb19 := NB822_821.out
     have hnc19 := NB821_822.out
     obtain ⟨hcz20_0, hcz20_1, hcz20_2, hcz20_3, hfz20_0, hfz20_1, hfz20_2, hfz20_3⟩ := cz4 BK822
     go_wp2
     refine bodyPost_ret (results_ct rfl _ _ gb822 83 #[.int .i64 0, .int .i64 0, .int .i64 0, .int .i64 0] (0, 0) _ rfl (by (with_reducible repeat (first | refine blk_drewN ?_ _ | refine blk_drew ?_ | refine blk_alloc ?_ _)); refine blk_put (cs := #[.int .i64 0, .int .i64 0, .int .i64 0, .int .i64 0]) ?_ 3 _ rfl; (with_reducible repeat (first | refine blk_drewN ?_ _ | refine blk_drew ?_ | refine blk_alloc ?_ _)); refine blk_put (cs := #[.int .i64 0, .int .i64 0, .int .i64 0, .int .i64 0]) ?_ 2 _ rfl; (with_reducible repeat (first | refine blk_drewN ?_ _ | refine blk_drew ?_ | refine blk_alloc ?_ _)); refine blk_put (cs := #[.int .i64 0, .int .i64 0, .int .i64 0, .int .i64 0]) ?_ 1 _ rfl; (with_reducible repeat (first | refine blk_drewN ?_ _ | refine blk_drew ?_ | refine blk_alloc ?_ _)); refine blk_put (cs := #[.int .i64 0, .int .i64 0, .int .i64 0, .int .i64 0]) ?_ 0 _ rfl; (with_reducible repeat (first | refine blk_drewN ?_ _ | refine blk_drew ?_ | refine blk_alloc ?_ _)); exact BK822.out) Try.underlying83 rfl (by kernel_rfl)) rfl ?_
     exact ⟨ew, bl2 GE821 GE822⟩
   · replace c18 := Bool.eq_false_iff.mpr c18
     subst c18
     replace H := iF H
     obtain ⟨t827, A210, H⟩ := bo H
     have A21 := Aside0.mk A210
     clear A210
     obtain ⟨t828, A220, H⟩ := bo H
     have A22 := Aside0.mk A220
     clear A220
     obtain ⟨t829, A230, H⟩ := bo H
     have A23 := Aside0.mk A230
     clear A230
     obtain ⟨y831, hy831⟩ : ∃ y_ : List Int, y_ = (([] : List Int)) := ⟨_, rfl⟩
     replace H : (spec_TallyOf.l0 kj6 l0 l1 a2 a3 t823 y831 0 a4_0 a4_1 a4_2 t827 t828 t829 0) = some (r1, r2, r3, r4, r5) := by first | (rw [hy831]; with_reducible exact H) | (have H2_ := (Option.bind_some _ _).symm.trans H; rw [hy831]; with_reducible exact H2_) | (have H2_ := (Option.bind_some _ _).symm.trans H; with_reducible exact H2_) | with_reducible exact H | (rw [hy831]; exact H) | exact H
     have Ny831 := Aside0.mk hy831
     clear hy831
     have H' := Aside0.mk H
     clear H
     obtain ⟨Ao24, co24, eo24⟩ := Kd.R_slice HO_12.out
     subst eo24
     go_wp2_with (first | ((with_reducible refine gate_callee (f := 101) rfl ?_); refine gl (some 40) Try.func101 #[.slice Ao24 t823.length co24, .int .i64 0] ?_; (with_reducible refine (spec_CountClass.calls kj6 _ _ t823 0 t827 _ ?side1 ?side2 A21.out).mono ?_); (case side1 => repeat (first | exact (Kd.R_reads' HO_12.out).2.2 | (with_reducible refine Kd.C_alloc ?_ _) | (with_reducible refine Kd.C_drewN ?_ _) | (with_reducible refine Kd.C_drew ?_))); (case side2 => exact (Kd.R_reads' HO_12.out).2.1); rintro e w' ⟨rfl, ⟨nd, rfl⟩⟩; refine ⟨_, rfl, ?_⟩; (try (rw [drewN_self wc]; generalize hq_ : World.drewN wc _ = wc; have n0_ : Aside0 (Kd.R (Kd.int .i64) 3 wc w.heap.size (fun _ => True) (.slice Ao24 t823.length co24) t823) := ⟨by rw [← hq_]; exact (kr HO_12)⟩; have n1_ : Aside0 (wc.heap[gb821]? = some (.cells #[.int .i64 a4_0, .int .i64 a4_1, .int .i64 a4_2] 61 (0, 0))) := ⟨by rw [← hq_]; exact (bk BK821)⟩; have n2_ : Aside0 (wc.heap[gb822]? = some (.cells #[.int .i64 0, .int .i64 0, .int .i64 0, .int .i64 0] 83 (0, 0))) := ⟨by rw [← hq_]; exact (bk BK822)⟩; have n3_ : Aside0 (Below w.heap.size w wc) := ⟨by rw [← hq_]; exact (bl2 GE821 GE822)⟩; clear HO_12 BK821 BK822 HB hq_; have HO_12 := n0_; have BK821 := n1_; have BK822 := n2_; have HB := n3_; clear n0_ n1_ n2_ n3_))) | ((with_reducible refine gate_callee (f := 101) rfl ?_); refine gl (some 42) Try.func101 #[.slice Ao24 t823.length co24, .int .i64 1] ?_; (with_reducible refine (spec_CountClass.calls kj6 _ _ t823 1 t828 _ ?side1 ?side2 A22.out).mono ?_); (case side1 => repeat (first | exact (Kd.R_reads' HO_12.out).2.2 | (with_reducible refine Kd.C_alloc ?_ _) | (with_reducible refine Kd.C_drewN ?_ _) | (with_reducible refine Kd.C_drew ?_))); (case side2 => exact (Kd.R_reads' HO_12.out).2.1); rintro e w' ⟨rfl, ⟨nd, rfl⟩⟩; refine ⟨_, rfl, ?_⟩; (try (rw [drewN_self wc]; generalize hq_ : World.drewN wc _ = wc; have n0_ : Aside0 (Kd.R (Kd.int .i64) 3 wc w.heap.size (fun _ => True) (.slice Ao24 t823.length co24) t823) := ⟨by rw [← hq_]; exact (kr HO_12)⟩; have n1_ : Aside0 (wc.heap[gb821]? = some (.cells #[.int .i64 a4_0, .int .i64 a4_1, .int .i64 a4_2] 61 (0, 0))) := ⟨by rw [← hq_]; exact (bk BK821)⟩; have n2_ : Aside0 (wc.heap[gb822]? = some (.cells #[.int .i64 0, .int .i64 0, .int .i64 0, .int .i64 0] 83 (0, 0))) := ⟨by rw [← hq_]; exact (bk BK822)⟩; have n3_ : Aside0 (Below w.heap.size w wc) := ⟨by rw [← hq_]; exact (bl2 GE821 GE822)⟩; clear HO_12 BK821 BK822 HB hq_; have HO_12 := n0_; have BK821 := n1_; have BK822 := n2_; have HB := n3_; clear n0_ n1_ n2_ n3_))) | ((with_reducible refine gate_callee (f := 101) rfl ?_); refine gl (some 44) Try.func101 #[.slice Ao24 t823.length co24, .int .i64 2] ?_; (with_reducible refine (spec_CountClass.calls kj6 _ _ t823 2 t829 _ ?side1 ?side2 A23.out).mono ?_); (case side1 => repeat (first | exact (Kd.R_reads' HO_12.out).2.2 | (with_reducible refine Kd.C_alloc ?_ _) | (with_reducible refine Kd.C_drewN ?_ _) | (with_reducible refine Kd.C_drew ?_))); (case side2 => exact (Kd.R_reads' HO_12.out).2.1); rintro e w' ⟨rfl, ⟨nd, rfl⟩⟩; refine ⟨_, rfl, ?_⟩; (try (rw [drewN_self wc]; generalize hq_ : World.drewN wc _ = wc; have n0_ : Aside0 (Kd.R (Kd.int .i64) 3 wc w.heap.size (fun _ => True) (.slice Ao24 t823.length co24) t823) := ⟨by rw [← hq_]; exact (kr HO_12)⟩; have n1_ : Aside0 (wc.heap[gb821]? = some (.cells #[.int .i64 a4_0, .int .i64 a4_1, .int .i64 a4_2] 61 (0, 0))) := ⟨by rw [← hq_]; exact (bk BK821)⟩; have n2_ : Aside0 (wc.heap[gb822]? = some (.cells #[.int .i64 0, .int .i64 0, .int .i64 0, .int .i64 0] 83 (0, 0))) := ⟨by rw [← hq_]; exact (bk BK822)⟩; have n3_ : Aside0 (Below w.heap.size w wc) := ⟨by rw [← hq_]; exact (bl2 GE821 GE822)⟩; clear HO_12 BK821 BK822 HB hq_; have HO_12 := n0_; have BK821 := n1_; have BK822 := n2_; have HB := n3_; clear n0_ n1_ n2_ n3_))) | ((with_reducible refine gate_dst (N := 13) rfl ?_); (try (refine gate_guard (by rfl) ?_; dsimp only)); refine bx 13 #[.int .i64 0, .int .i64 0, .int .i64 0, .int .i64 0] 83 ?_; intro gb830 hg w25 hbox hb; replace HO_12 := ak (Kd.R_below (kr HO_12) hb); have BK830 := ak hbox; have GW830 := gs hg (bl2 GE821 GE822); have GE830 := gs hg (bl2 GE821 GE822); replace HB := ak (below_step (bl2 GE821 GE822) hb); have NB821_830 := nl hg BK821; have NB830_821 := ng hg BK821; replace BK821 := bb BK821 hb; have NB822_830 := nl hg BK822; have NB830_822 := ng hg BK822; replace BK822 := bb BK822 hb; clear hb hbox hg; have hnb26 := NB830_821.out; have hnc26 := NB821_830.out; have hnb27 := NB830_822.out; have hnc27 := NB822_830.out; obtain ⟨hcz28_0, hcz28_1, hcz28_2, hcz28_3, hfz28_0, hfz28_1, hfz28_2, hfz28_3⟩ := cz4 BK830) | ((with_reducible refine gate_dst (N := 46) rfl ?_); (try (refine gate_guard (by rfl) ?_; dsimp only)); refine Kd.R_lit (Kd.int .i64) _ 3 ?hg (N := 46) ?hd (xs := ([] : List Int)) (inner := []) (ok := fun _ => True) (okp := fun _ => True) ?hr ?hp (fun _ hk => hk) trivial (Below.refl _ _) (Nat.le_refl _) (by simp) ?_; (case hd => rfl); (case hg => rfl); (case hr => first | (go_simp; done) | (go_simp; rfl)); (case hp => exact (Reps.none _ _)); intro v832 w29 ho30 hb hg_ hnew_; clear hg_ hnew_; (first | rw [← Ny831.out] at ho30 | (simp only [Int.reduceToNat] at ho30; rw [← Ny831.out] at ho30)); have HO833 := ak (Kd.R_lower (Kd.R_new' ho30 (Kd.R_lt (by (with_reducible repeat (first | apply Kd.R_alloc | apply Kd.R_drewN | apply Kd.R_drew)); exact (Kd.R_mono (Kd.R_far (p := ⟨gb830, 3, none⟩) (Kd.R_far (p := ⟨gb830, 2, none⟩) (Kd.R_far (p := ⟨gb830, 1, none⟩) (Kd.R_far (p := ⟨gb830, 0, none⟩) (Kd.R_types HO_12.out BK830.out (by decide)) (fun _ hk => hk.2) (.int .i64 t827)) (fun _ hk => hk.2) (.int .i64 t828)) (fun _ hk => hk.2) (.int .i64 t829)) (fun _ hk => hk.2) (.int .i64 0)) (fun _ h_ => h_.1))))) (below_size (bl3 GE821 GE822 GE830))); replace HO_12 := ak (Kd.R_elder' (by (with_reducible repeat (first | apply Kd.R_alloc | apply Kd.R_drewN | apply Kd.R_drew)); exact (Kd.R_mono (Kd.R_far (p := ⟨gb830, 3, none⟩) (Kd.R_far (p := ⟨gb830, 2, none⟩) (Kd.R_far (p := ⟨gb830, 1, none⟩) (Kd.R_far (p := ⟨gb830, 0, none⟩) (Kd.R_types HO_12.out BK830.out (by decide)) (fun _ hk => hk.2) (.int .i64 t827)) (fun _ hk => hk.2) (.int .i64 t828)) (fun _ hk => hk.2) (.int .i64 t829)) (fun _ hk => hk.2) (.int .i64 0)) (fun _ h_ => h_.1))) (Kd.R_base ho30) hb); replace BK821 := bf1 BK821 NB821_830 hb; replace BK822 := bf1 BK822 NB822_830 hb; replace BK830 := ak (blk_below (g := gb830) (o := .cells #[.int .i64 t827, .int .i64 t828, .int .i64 t829, .int .i64 0] 83 (0, 0)) (by (with_reducible repeat (first | refine blk_drewN ?_ _ | refine blk_drew ?_ | refine blk_alloc ?_ _)); refine blk_put (cs := #[.int .i64 t827, .int .i64 t828, .int .i64 t829, .int .i64 0]) ?_ 3 _ rfl; (with_reducible repeat (first | refine blk_drewN ?_ _ | refine blk_drew ?_ | refine blk_alloc ?_ _)); refine blk_put (cs := #[.int .i64 t827, .int .i64 t828, .int .i64 0, .int .i64 0]) ?_ 2 _ rfl; (with_reducible repeat (first | refine blk_drewN ?_ _ | refine blk_drew ?_ | refine blk_alloc ?_ _)); refine blk_put (cs := #[.int .i64 t827, .int .i64 0, .int .i64 0, .int .i64 0]) ?_ 1 _ rfl; (with_reducible repeat (first | refine blk_drewN ?_ _ | refine blk_drew ?_ | refine blk_alloc ?_ _)); refine blk_put (cs := #[.int .i64 0, .int .i64 0, .int .i64 0, .int .i64 0]) ?_ 0 _ rfl; (with_reducible repeat (first | refine blk_drewN ?_ _ | refine blk_drew ?_ | refine blk_alloc ?_ _)); exact BK830.out) hb); replace HB := ak (below_step (bl3 GE821 GE822 GE830) hb); clear hb ho30))
     go_loopg [14, 15] kj6 (fun kq v14 v15 w' => ∃ (x14_2 : List Int) (x15_2 : Int), v15 = .int .i64 x15_2 ∧ Aside0 (spec_TallyOf.l0 kq l0 l1 a2 a3 t823 x14_2 x15_2 a4_0 a4_1 a4_2 t827 t828 t829 0 = some (r1, r2, r3, r4, r5)) ∧ Aside0 (kq ≤ kj6) ∧ Aside0 (Kd.R (Kd.int .i64) 3 w' w.heap.size (fun k_ => some k_ ≠ (v14 : Value).ownBlock) (.slice Ao24 t823.length co24) t823) ∧ Aside0 (Kd.R (Kd.int .i64) 3 w' w.heap.size (fun k_ => some k_ ≠ ((.slice Ao24 t823.length co24) : Value).ownBlock) v14 x14_2) ∧ Aside0 (w'.heap[gb821]? = some (.cells #[.int .i64 a4_0, .int .i64 a4_1, .int .i64 a4_2] 61 (0, 0))) ∧ Aside0 (w'.heap[gb822]? = some (.cells #[.int .i64 0, .int .i64 0, .int .i64 0, .int .i64 0] 83 (0, 0))) ∧ Aside0 (w'.heap[gb830]? = some (.cells #[.int .i64 t827, .int .i64 t828, .int .i64 t829, .int .i64 0] 83 (0, 0))) ∧ Aside0 (Below w.heap.size w w'))
     case atStart => exact ⟨(y831), (0), es, H', ⟨Nat.le_refl _⟩, ⟨by (with_reducible repeat (first | apply Kd.R_alloc | apply Kd.R_drewN | apply Kd.R_drew)); exact Kd.R_mono HO_12.out (fun _ hk => hk.2)⟩, ⟨by (with_reducible repeat (first | apply Kd.R_alloc | apply Kd.R_drewN | apply Kd.R_drew)); exact Kd.R_mono HO833.out (fun _ hk => hk.2)⟩, ⟨bk BK821⟩, ⟨bk BK822⟩, ⟨bk BK830⟩, ⟨bl3 GE821 GE822 GE830⟩⟩
     case round =>
      clear H'
      try clear c1
      try clear c2
      try clear p2
      try clear c3
      try clear c5
      try clear c8
      try clear c10
      try clear c14
      try clear c18
      try clear c19
      try clear c26
      try clear c27
      try clear hcz11_0
      try clear hcz11_1
      try clear hcz11_2
      try clear hcz20_0
      try clear hcz20_1
      try clear hcz20_2
      try clear hcz20_3
      try clear hcz28_0
      try clear hcz28_1
      try clear hcz28_2
      try clear hcz28_3
      try clear hfz11_0
      try clear hfz11_1
      try clear hfz11_2
      try clear hfz20_0
      try clear hfz20_1
      try clear hfz20_2
      try clear hfz20_3
      try clear hfz28_0
      try clear hfz28_1
      try clear hfz28_2
      try clear hfz28_3
      try clear p2
      obtain ⟨x14_2, x15_2, rfl, HA, HK2, HO_12, HO_14, BK821, BK822, BK830, HB⟩ := hrel
      cases gk with
      | zero => exact absurd HA.out (by simp [spec_TallyOf.l0])
      | succ k2 =>
       have H := HA.out
       clear HA
       simp only [spec_TallyOf.l0] at H
       by_cases c31 : x15_2 < (l0.length : Int)
       · rw [if_pos c31] at H
         have c31b0 : decide (x15_2 < (l0.length : Int)) = true := decide_eq_true c31
         clear c31
         by_cases c32 : 0 ≤ x15_2
         · rw [if_pos c32] at H
           have c32b0 : decide (0 ≤ x15_2) = true := decide_eq_true c32
           clear c32
           by_cases c33 : x15_2 < (t823.length : Int)
           · rw [if_pos c33] at H
             have c33b0 : decide (x15_2 < (t823.length : Int)) = true := decide_eq_true c33
             clear c33
             by_cases c34 : (rd t823 x15_2) = 0
             · rw [if_pos c34] at H
               have c34b0 : ((rd t823 x15_2) == 0) = true := beq_iff_eq.mpr c34
               have c34b1 : ((rd t823 x15_2) != 0) = false := bne_eq_false_iff_eq.mpr c34
               clear c34
               replace H := Option.bind_eq_some_iff.mp H
               obtain ⟨⟨t838, t839⟩, A350, H⟩ := H
               replace H : (if t839 = true then (if x14_2.length < 17592186044416 then (spec_TallyOf.l0 k2 l0 l1 a2 a3 t823 (x14_2 ++ [t838]) (wrap64 (x15_2 + 1)) a4_0 a4_1 a4_2 t827 t828 t829 0) else (none)) else ((spec_LatestOf.f k2 l1 ((rd_T147 l0 x15_2).f0) a2).bind fun bt844 => (if x14_2.length < 17592186044416 then (spec_TallyOf.l0 k2 l0 l1 a2 a3 t823 (x14_2 ++ [bt844.2.1]) (wrap64 (x15_2 + 1)) a4_0 a4_1 a4_2 t827 t828 t829 0) else (none)))) = some (r1, r2, r3, r4, r5) := H
               have A35 := Aside0.mk A350
               clear A350
               by_cases c36 : t839 = true
               · subst c36
                 replace H := iT H
                 by_cases c37 : x14_2.length < 17592186044416
                 · rw [if_pos c37] at H
                   have LMc37 := Aside0.mk c37
                   clear c37
                   obtain ⟨y840, hy840⟩ : ∃ y_ : List Int, y_ = (x14_2 ++ [t838]) := ⟨_, rfl⟩
                   replace H : (spec_TallyOf.l0 k2 l0 l1 a2 a3 t823 y840 (wrap64 (x15_2 + 1)) a4_0 a4_1 a4_2 t827 t828 t829 0) = some (r1, r2, r3, r4, r5) := by first | (rw [hy840]; with_reducible exact H) | (have H2_ := (Option.bind_some _ _).symm.trans H; rw [hy840]; with_reducible exact H2_) | (have H2_ := (Option.bind_some _ _).symm.trans H; with_reducible exact H2_) | with_reducible exact H | (rw [hy840]; exact H) | exact H
                   have Ny840 := Aside0.mk hy840
                   clear hy840
                   have H' := Aside0.mk H
                   clear H
                   have p836 : 0 ≤ (x15_2 : Int) := of_decide_eq_true am
                   have q836 : x15_2 < (t823.length : Int) := of_decide_eq_true am
                   obtain ⟨ad836, e836, hx836_0⟩ := Kd.at_int (Kd.R_reads' HO_12.out).2.2 x15_2 p836 q836
                   cases e836
                   replace p836 := eq_true p836
                   replace q836 := eq_true q836
                   try go_wp2
                   replace HO_12 := ak (Kd.R_drew HO_12.out)
                   replace HO_14 := ak (Kd.R_drew HO_14.out)
                   replace BK821 := ak (blk_drew BK821.out)
                   replace BK822 := ak (blk_drew BK822.out)
                   replace BK830 := ak (blk_drew BK830.out)
                   replace HB := ak (below_drew1 HB.out)
                   have p837 : 0 ≤ (x15_2 : Int) := of_decide_eq_true am
                   have q837 : x15_2 < (l0.length : Int) := of_decide_eq_true am
                   obtain ⟨ad837, e837, hx837_0, hx837_1, hx837_2, hx837_3⟩ := at_T147 HR0.out x15_2 p837 q837
                   have hw837_3 := hx837_3
                   have hw837_2 := hx837_2
                   have hw837_1 := hx837_1
                   have hw837_0 := hx837_0
                   cases e837
                   replace hx837_0 := cw hx837_0
                   replace hx837_1 := cw hx837_1
                   replace hx837_2 := cw hx837_2
                   replace hx837_3 := cw hx837_3
                   replace p837 := eq_true p837
                   replace q837 := eq_true q837
                   refine start_ (n := 18) (S := fun w' => w'.cell? ⟨gb821, 0, none⟩ = some (.int .i64 a4_0) ∧ w'.cell? ⟨gb821, 1, none⟩ = some (.int .i64 a4_1) ∧ w'.cell? ⟨gb821, 2, none⟩ = some (.int .i64 a4_2) ∧ w'.cell? (ad837.add ((x15_2).toNat * 4)) = some (.string ((rd_T147 l0 x15_2).f0)) ∧ w'.cell? ⟨(ad837.add ((x15_2).toNat * 4)).block, (ad837.add ((x15_2).toNat * 4)).off + 1, none⟩ = some (.int .i64 ((rd_T147 l0 x15_2).f1)) ∧ w'.cell? ⟨(ad837.add ((x15_2).toNat * 4)).block, (ad837.add ((x15_2).toNat * 4)).off + 2, none⟩ = some (.int .i64 ((rd_T147 l0 x15_2).f2)) ∧ w'.cell? ⟨(ad837.add ((x15_2).toNat * 4)).block, (ad837.add ((x15_2).toNat * 4)).off + 3, none⟩ = some (.bool ((rd_T147 l0 x15_2).f3))) (ds := []) (bitsA 18 0) (by kernel_rfl) rfl rfl ⟨bc BK821 0, bc BK821 1, bc BK821 2, (cw hw837_0), (cw hw837_1), (cw hw837_2), (cw hw837_3)⟩ (fun hHeld => ?_); refine with_tabW spec_TallyOf.tab10 spec_TallyOf.bits10 (fun HT_ HW_ => ?_)
                   generalize wr.drew = w38 at HO_12 HO_14 BK821 BK822 BK830 HB hx837_0 hx837_1 hx837_2 hx837_3 hHeld ⊢
                   refine pu 0 (some 59) (bitsA 18 1) ?_
                   refine pu 1 (some 60) (bitsA 18 3) ?_
                   refine pu 2 (some 61) (bitsA 18 7) ?_
                   refine pu 3 (some 62) (bitsA 18 15) ?_
                   refine pu 4 (some 63) (bitsA 18 31) ?_
                   refine tk 5 (some 64) (bitsA 18 63) hHeld ?_ (hy := Or.inl ⟨by rfl, by rintro w' ⟨s0, s1, s2, s3, s4, s5, s6⟩; go_simp; with_reducible rfl⟩)
                   refine pu 6 (some 65) (bitsA 18 127) ?_
                   refine pu 7 (some 66) (bitsA 18 255) ?_
                   refine pu 8 (some 67) (bitsA 18 511) ?_
                   refine tk 9 (some 68) (bitsA 18 1023) hHeld ?_ (hy := Or.inl ⟨by rfl, by rintro w' ⟨s0, s1, s2, s3, s4, s5, s6⟩; go_simp; with_reducible rfl⟩)
                   refine pu 10 (some 69) (bitsA 18 2047) ?_
                   refine pu 11 (some 70) (bitsA 18 4095) ?_
                   refine one_ (i := 12) (N := some 71) (bitsA 18 8191) rfl rfl (one_of HT_.out (by kernel_rfl)) (by decide) (fun K hK => ?_)
                   refine goes_ Try.func102 (by kernel_rfl) rfl #[.slice A1 l1.length c1, .string ((rd_T147 l0 x15_2).f0), .string a2, .int .i64 (wrap64 (a3 - a4_2)), .int .i64 a3] (by rfl) rfl rfl mt ?_
                   with_reducible refine (spec_AverageOf.calls k2 _ _ l1 ((rd_T147 l0 x15_2).f0) a2 (wrap64 (a3 - a4_2)) a3 t838 true _ ?side1 ?side2 A35.out).mono ?_
                   (case side1 => exact cb HR1)
                   (case side2 => exact HC1.out)
                   rintro e w39 ⟨rfl, hb⟩
                   refine ⟨_, rfl, ?_⟩
                   replace HO_12 := ak (Kd.R_below (kr HO_12) hb)
                   replace HO_14 := ak (Kd.R_below (kr HO_14) hb)
                   replace BK821 := bb BK821 hb
                   replace BK822 := bb BK822 hb
                   replace BK830 := bb BK830 hb
                   replace HB := ak (below_step (bl3 GE821 GE822 GE830) hb)
                   (try clear hb)
                   (try clear hb2)
                   (try clear hk)
                   (try clear hi)
                   refine hK.out _ _ ⟨bc BK821 0, bc BK821 1, bc BK821 2, (cw hw837_0), (cw hw837_1), (cw hw837_2), (cw hw837_3)⟩ (fun hHeld => ?_)
                   clear hK K
                   refine nm ?_
                   refine pu 13 (some 58) (bitsA 18 16383) ?_
                   refine pu 14 (some 72) (bitsA 18 32767) ?_
                   refine pu 15 (some 73) (bitsA 18 65535) ?_
                   refine pu 16 (some 16) (bitsA 18 131071) ?_
                   refine pu 17 (some 17) (bitsA 18 262143) ?_
                   refine done_ (done_of HT_.out (by kernel_rfl)) ?_
                   try go_wp2_with (first | ((with_reducible refine gate_builtin (b := .append) (xs := #[.tmp 89, .tmp 91]) rfl ?_); (try (refine gate_guard (by rfl) ?_; dsimp only)); at_builtin; refine Kd.R_append (Kd.int .i64) (w0 := w) w.heap.size rfl (.tmp 89) (.tmp 91) 25 3 (.int .i64 0) 8 rfl Try.underlying25 info3 rfl (by decide) (by omega) u14 x14_2 t838 [.int .i64 t838] (fun k_ => some k_ ≠ (.slice (some ad836) t823.length co24 : Value).ownBlock) (fun _ => False) rfl rfl ?aP (fun _ hk => hk.elim) ?aF ?aO ?aB ?aS ?aL ?_; (case aP => exact rfl); (case aB => exact (bl3 GE821 GE822 GE830)); (case aF => exact (fun k_ hk => Kd.fresh' (Kd.R_lt (kr HO_12)) k_ hk)); (case aO => exact (kr HO_14)); (case aS => exact (below_size (bl3 GE821 GE822 GE830))); (case aL => have := LMc37.out; omega); intro v841 w40 ho hb hg hat; rw [← Ny840.out] at ho; replace HO_12 := ak (Kd.R_after (ok := (fun _ => True)) (by (with_reducible repeat (first | apply Kd.R_alloc | apply Kd.R_drewN | apply Kd.R_drew)); exact Kd.R_mono HO_12.out (fun _ hk => ⟨trivial, hk⟩)) hg hat); replace BK821 := ak (blk_grown (g := gb821) (o := .cells #[.int .i64 a4_0, .int .i64 a4_1, .int .i64 a4_2] 61 (0, 0)) (bk BK821) hg (Kd.R_ne HO_14.out BK821.out (by decide))); replace BK822 := ak (blk_grown (g := gb822) (o := .cells #[.int .i64 0, .int .i64 0, .int .i64 0, .int .i64 0] 83 (0, 0)) (bk BK822) hg (Kd.R_ne HO_14.out BK822.out (by decide))); replace BK830 := ak (blk_grown (g := gb830) (o := .cells #[.int .i64 t827, .int .i64 t828, .int .i64 t829, .int .i64 0] 83 (0, 0)) (bk BK830) hg (Kd.R_ne HO_14.out BK830.out (by decide))); replace HB := ak hb; have HO842 := ak ho; clear HO_14; clear ho hb hg hat))
                   go_roundg k2
                   case measure => have := HJ6.out; have := HK2.out; omega
                   case rel => exact ⟨(y840), (wrap64 (x15_2 + 1)), es, H', ⟨by have := HJ6.out; have := HK2.out; omega⟩, ⟨by (with_reducible repeat (first | apply Kd.R_alloc | apply Kd.R_drewN | apply Kd.R_drew)); exact Kd.R_mono HO_12.out (fun _ hk => hk.2)⟩, ⟨kr HO842⟩, ⟨bk BK821⟩, ⟨bk BK822⟩, ⟨bk BK830⟩, ⟨bl3 GE821 GE822 GE830⟩⟩
                 · rw [if_neg c37] at H
                   exact absurd H (by simp)
               · replace c36 := Bool.eq_false_iff.mpr c36
                 subst c36
                 replace H := iF H
                 replace H := Option.bind_eq_some_iff.mp H
                 obtain ⟨⟨t844, t845, t846⟩, A410, H⟩ := H
                 replace H : (if x14_2.length < 17592186044416 then (spec_TallyOf.l0 k2 l0 l1 a2 a3 t823 (x14_2 ++ [t845]) (wrap64 (x15_2 + 1)) a4_0 a4_1 a4_2 t827 t828 t829 0) else (none)) = some (r1, r2, r3, r4, r5) := H
                 have A41 := Aside0.mk A410
                 clear A410
                 by_cases c42 : x14_2.length < 17592186044416
                 · rw [if_pos c42] at H
                   have LMc42 := Aside0.mk c42
                   clear c42
                   obtain ⟨y848, hy848⟩ : ∃ y_ : List Int, y_ = (x14_2 ++ [t845]) := ⟨_, rfl⟩
                   replace H : (spec_TallyOf.l0 k2 l0 l1 a2 a3 t823 y848 (wrap64 (x15_2 + 1)) a4_0 a4_1 a4_2 t827 t828 t829 0) = some (r1, r2, r3, r4, r5) := by first | (rw [hy848]; with_reducible exact H) | (have H2_ := (Option.bind_some _ _).symm.trans H; rw [hy848]; with_reducible exact H2_) | (have H2_ := (Option.bind_some _ _).symm.trans H; with_reducible exact H2_) | with_reducible exact H | (rw [hy848]; exact H) | exact H
                   have Ny848 := Aside0.mk hy848
                   clear hy848
                   have H' := Aside0.mk H
                   clear H
                   have p836 : 0 ≤ (x15_2 : Int) := of_decide_eq_true am
                   have q836 : x15_2 < (t823.length : Int) := of_decide_eq_true am
                   obtain ⟨ad836, e836, hx836_0⟩ := Kd.at_int (Kd.R_reads' HO_12.out).2.2 x15_2 p836 q836
                   cases e836
                   replace p836 := eq_true p836
                   replace q836 := eq_true q836
                   try go_wp2
                   replace HO_12 := ak (Kd.R_drew HO_12.out)
                   replace HO_14 := ak (Kd.R_drew HO_14.out)
                   replace BK821 := ak (blk_drew BK821.out)
                   replace BK822 := ak (blk_drew BK822.out)
                   replace BK830 := ak (blk_drew BK830.out)
                   replace HB := ak (below_drew1 HB.out)
                   have p837 : 0 ≤ (x15_2 : Int) := of_decide_eq_true am
                   have q837 : x15_2 < (l0.length : Int) := of_decide_eq_true am
                   obtain ⟨ad837, e837, hx837_0, hx837_1, hx837_2, hx837_3⟩ := at_T147 HR0.out x15_2 p837 q837
                   have hw837_3 := hx837_3
                   have hw837_2 := hx837_2
                   have hw837_1 := hx837_1
                   have hw837_0 := hx837_0
                   cases e837
                   replace hx837_0 := cw hx837_0
                   replace hx837_1 := cw hx837_1
                   replace hx837_2 := cw hx837_2
                   replace hx837_3 := cw hx837_3
                   replace p837 := eq_true p837
                   replace q837 := eq_true q837
                   refine start_ (n := 18) (S := fun w' => w'.cell? ⟨gb821, 0, none⟩ = some (.int .i64 a4_0) ∧ w'.cell? ⟨gb821, 1, none⟩ = some (.int .i64 a4_1) ∧ w'.cell? ⟨gb821, 2, none⟩ = some (.int .i64 a4_2) ∧ w'.cell? (ad837.add ((x15_2).toNat * 4)) = some (.string ((rd_T147 l0 x15_2).f0)) ∧ w'.cell? ⟨(ad837.add ((x15_2).toNat * 4)).block, (ad837.add ((x15_2).toNat * 4)).off + 1, none⟩ = some (.int .i64 ((rd_T147 l0 x15_2).f1)) ∧ w'.cell? ⟨(ad837.add ((x15_2).toNat * 4)).block, (ad837.add ((x15_2).toNat * 4)).off + 2, none⟩ = some (.int .i64 ((rd_T147 l0 x15_2).f2)) ∧ w'.cell? ⟨(ad837.add ((x15_2).toNat * 4)).block, (ad837.add ((x15_2).toNat * 4)).off + 3, none⟩ = some (.bool ((rd_T147 l0 x15_2).f3))) (ds := []) (bitsA 18 0) (by kernel_rfl) rfl rfl ⟨bc BK821 0, bc BK821 1, bc BK821 2, (cw hw837_0), (cw hw837_1), (cw hw837_2), (cw hw837_3)⟩ (fun hHeld => ?_); refine with_tabW spec_TallyOf.tab10 spec_TallyOf.bits10 (fun HT_ HW_ => ?_)
                   generalize wr.drew = w43 at HO_12 HO_14 BK821 BK822 BK830 HB hx837_0 hx837_1 hx837_2 hx837_3 hHeld ⊢
                   refine pu 0 (some 59) (bitsA 18 1) ?_
                   refine pu 1 (some 60) (bitsA 18 3) ?_
                   refine pu 2 (some 61) (bitsA 18 7) ?_
                   refine pu 3 (some 62) (bitsA 18 15) ?_
                   refine pu 4 (some 63) (bitsA 18 31) ?_
                   refine tk 5 (some 64) (bitsA 18 63) hHeld ?_ (hy := Or.inl ⟨by rfl, by rintro w' ⟨s0, s1, s2, s3, s4, s5, s6⟩; go_simp; with_reducible rfl⟩)
                   refine pu 6 (some 65) (bitsA 18 127) ?_
                   refine pu 7 (some 66) (bitsA 18 255) ?_
                   refine pu 8 (some 67) (bitsA 18 511) ?_
                   refine tk 9 (some 68) (bitsA 18 1023) hHeld ?_ (hy := Or.inl ⟨by rfl, by rintro w' ⟨s0, s1, s2, s3, s4, s5, s6⟩; go_simp; with_reducible rfl⟩)
                   refine pu 10 (some 69) (bitsA 18 2047) ?_
                   refine pu 11 (some 70) (bitsA 18 4095) ?_
                   refine one_ (i := 12) (N := some 71) (bitsA 18 8191) rfl rfl (one_of HT_.out (by kernel_rfl)) (by decide) (fun K hK => ?_)
                   refine goes_ Try.func102 (by kernel_rfl) rfl #[.slice A1 l1.length c1, .string ((rd_T147 l0 x15_2).f0), .string a2, .int .i64 (wrap64 (a3 - a4_2)), .int .i64 a3] (by rfl) rfl rfl mt ?_
                   with_reducible refine (spec_AverageOf.calls k2 _ _ l1 ((rd_T147 l0 x15_2).f0) a2 (wrap64 (a3 - a4_2)) a3 t838 false _ ?side1 ?side2 A35.out).mono ?_
                   (case side1 => exact cb HR1)
                   (case side2 => exact HC1.out)
                   rintro e w44 ⟨rfl, hb⟩
                   refine ⟨_, rfl, ?_⟩
                   replace HO_12 := ak (Kd.R_below (kr HO_12) hb)
                   replace HO_14 := ak (Kd.R_below (kr HO_14) hb)
                   replace BK821 := bb BK821 hb
                   replace BK822 := bb BK822 hb
                   replace BK830 := bb BK830 hb
                   replace HB := ak (below_step (bl3 GE821 GE822 GE830) hb)
                   (try clear hb)
                   (try clear hb2)
                   (try clear hk)
                   (try clear hi)
                   refine hK.out _ _ ⟨bc BK821 0, bc BK821 1, bc BK821 2, (cw hw837_0), (cw hw837_1), (cw hw837_2), (cw hw837_3)⟩ (fun hHeld => ?_)
                   clear hK K
                   refine nm ?_
                   refine pu 13 (some 58) (bitsA 18 16383) ?_
                   refine pu 14 (some 72) (bitsA 18 32767) ?_
                   refine pu 15 (some 73) (bitsA 18 65535) ?_
                   refine pu 16 (some 16) (bitsA 18 131071) ?_
                   refine pu 17 (some 17) (bitsA 18 262143) ?_
                   refine done_ (done_of HT_.out (by kernel_rfl)) ?_
                   have p843 : 0 ≤ (x15_2 : Int) := of_decide_eq_true am
                   have q843 : x15_2 < (l0.length : Int) := of_decide_eq_true am
                   obtain ⟨ad843, e843, hx843_0, hx843_1, hx843_2, hx843_3⟩ := at_T147 HR0.out x15_2 p843 q843
                   obtain rfl : ad837 = ad843 := (by injection e843)
                   replace hx843_0 := cw hx843_0
                   replace hx843_1 := cw hx843_1
                   replace hx843_2 := cw hx843_2
                   replace hx843_3 := cw hx843_3
                   replace p843 := eq_true p843
                   replace q843 := eq_true q843
                   try go_wp2_with (first | ((with_reducible refine gate_callee (f := 103) rfl ?_); refine gl (some 84) Try.func103 #[.slice A1 l1.length c1, .string ((rd_T147 l0 x15_2).f0), .string a2] ?_; (with_reducible refine (spec_LatestOf.calls k2 _ _ l1 ((rd_T147 l0 x15_2).f0) a2 t844 t845 t846 _ ?side1 ?side2 A41.out).mono ?_); (case side1 => exact cb HR1); (case side2 => exact HC1.out); rintro e w45 ⟨rfl, hb⟩; refine ⟨_, rfl, ?_⟩; replace HO_12 := ak (Kd.R_below (kr HO_12) hb); replace HO_14 := ak (Kd.R_below (kr HO_14) hb); replace BK821 := bb BK821 hb; replace BK822 := bb BK822 hb; replace BK830 := bb BK830 hb; replace HB := ak (below_step (bl3 GE821 GE822 GE830) hb); (try clear hb); (try clear hb2); (try clear hk); (try clear hi)) | ((with_reducible refine gate_dst (N := 18) rfl ?_); (try (refine gate_guard (by rfl) ?_; dsimp only)); refine bx 18 #[.int .i64 0, .int .i64 0] 37 ?_; intro gb847 hg w46 hbox hb; replace HO_12 := ak (Kd.R_below (kr HO_12) hb); replace HO_14 := ak (Kd.R_below (kr HO_14) hb); have BK847 := ak hbox; have GW847 := gs hg (bl3 GE821 GE822 GE830); have GE847 := gs hg (bl3 GE821 GE822 GE830); replace HB := ak (below_step (bl3 GE821 GE822 GE830) hb); have NB821_847 := nl hg BK821; have NB847_821 := ng hg BK821; replace BK821 := bb BK821 hb; have NB822_847 := nl hg BK822; have NB847_822 := ng hg BK822; replace BK822 := bb BK822 hb; have NB830_847 := nl hg BK830; have NB847_830 := ng hg BK830; replace BK830 := bb BK830 hb; clear hb hbox hg; have hnb47 := NB847_821.out; have hnc47 := NB821_847.out; have hnb48 := NB847_822.out; have hnc48 := NB822_847.out; have hnb49 := NB847_830.out; have hnc49 := NB830_847.out; obtain ⟨hcz50_0, hcz50_1, hfz50_0, hfz50_1⟩ := cz2 BK847) | ((with_reducible refine gate_builtin (b := .append) (xs := #[.tmp 89, .tmp 91]) rfl ?_); (try (refine gate_guard (by rfl) ?_; dsimp only)); at_builtin; refine Kd.R_append (Kd.int .i64) (w0 := w) w.heap.size rfl (.tmp 89) (.tmp 91) 25 3 (.int .i64 0) 8 rfl Try.underlying25 info3 rfl (by decide) (by omega) u14 x14_2 t845 [.int .i64 t845] (fun k_ => some k_ ≠ (.slice (some ad836) t823.length co24 : Value).ownBlock) (fun _ => False) rfl (by first | (go_simp; done) | (go_simp; rfl)) ?aP (fun _ hk => hk.elim) ?aF ?aO ?aB ?aS ?aL ?_; (case aP => exact rfl); (case aB => exact (by repeat (first | (with_reducible first | exact HB.out | apply below_alloc | apply pw_below_drewN | apply below_drew1 | refine below_set ?_ GE821.out | refine below_set ?_ GE822.out | refine below_set ?_ GE830.out | refine below_set ?_ GE847.out) | exact HB.out))); (case aF => exact (fun k_ hk => Kd.fresh' (Kd.R_lt (by (with_reducible repeat (first | apply Kd.R_alloc | apply Kd.R_drewN | apply Kd.R_drew)); exact (Kd.R_mono (Kd.R_far (p := ⟨gb847, 1, none⟩) (Kd.R_far (p := ⟨gb847, 0, none⟩) (Kd.R_types HO_12.out BK847.out (by decide)) (fun _ hk => hk.2) (.int .i64 t844)) (fun _ hk => hk.2) (.int .i64 t845)) (fun _ h_ => h_.1)))) k_ hk)); (case aO => exact (by (with_reducible repeat (first | apply Kd.R_alloc | apply Kd.R_drewN | apply Kd.R_drew)); exact Kd.R_mono (Kd.R_far (p := ⟨gb847, 1, none⟩) (Kd.R_far (p := ⟨gb847, 0, none⟩) (Kd.R_types HO_14.out BK847.out (by decide)) (fun _ hk => hk.2) (.int .i64 t844)) (fun _ hk => hk.2) (.int .i64 t845)) (fun _ hk => hk.1))); (case aS => exact (below_size (by repeat (first | (with_reducible first | exact HB.out | apply below_alloc | apply pw_below_drewN | apply below_drew1 | refine below_set ?_ GE821.out | refine below_set ?_ GE822.out | refine below_set ?_ GE830.out | refine below_set ?_ GE847.out) | exact HB.out)))); (case aL => have := LMc42.out; omega); intro v849 w51 ho hb hg hat; rw [← Ny848.out] at ho; replace HO_12 := ak (Kd.R_after (ok := (fun _ => True)) (by (with_reducible repeat (first | apply Kd.R_alloc | apply Kd.R_drewN | apply Kd.R_drew)); exact Kd.R_mono (Kd.R_far (p := ⟨gb847, 1, none⟩) (Kd.R_far (p := ⟨gb847, 0, none⟩) (Kd.R_types HO_12.out BK847.out (by decide)) (fun _ hk => hk.2) (.int .i64 t844)) (fun _ hk => hk.2) (.int .i64 t845)) (fun _ hk => ⟨trivial, hk.1⟩)) hg hat); replace BK821 := ak (blk_grown (g := gb821) (o := .cells #[.int .i64 a4_0, .int .i64 a4_1, .int .i64 a4_2] 61 (0, 0)) (by (with_reducible repeat (first | refine blk_drewN ?_ _ | refine blk_drew ?_ | refine blk_alloc ?_ _)); refine blk_far ?_ NB821_847.out _; (with_reducible repeat (first | refine blk_drewN ?_ _ | refine blk_drew ?_ | refine blk_alloc ?_ _)); refine blk_far ?_ NB821_847.out _; (with_reducible repeat (first | refine blk_drewN ?_ _ | refine blk_drew ?_ | refine blk_alloc ?_ _)); exact BK821.out) hg (Kd.R_ne HO_14.out BK821.out (by decide))); replace BK822 := ak (blk_grown (g := gb822) (o := .cells #[.int .i64 0, .int .i64 0, .int .i64 0, .int .i64 0] 83 (0, 0)) (by (with_reducible repeat (first | refine blk_drewN ?_ _ | refine blk_drew ?_ | refine blk_alloc ?_ _)); refine blk_far ?_ NB822_847.out _; (with_reducible repeat (first | refine blk_drewN ?_ _ | refine blk_drew ?_ | refine blk_alloc ?_ _)); refine blk_far ?_ NB822_847.out _; (with_reducible repeat (first | refine blk_drewN ?_ _ | refine blk_drew ?_ | refine blk_alloc ?_ _)); exact BK822.out) hg (Kd.R_ne HO_14.out BK822.out (by decide))); replace BK830 := ak (blk_grown (g := gb830) (o := .cells #[.int .i64 t827, .int .i64 t828, .int .i64 t829, .int .i64 0] 83 (0, 0)) (by (with_reducible repeat (first | refine blk_drewN ?_ _ | refine blk_drew ?_ | refine blk_alloc ?_ _)); refine blk_far ?_ NB830_847.out _; (with_reducible repeat (first | refine blk_drewN ?_ _ | refine blk_drew ?_ | refine blk_alloc ?_ _)); refine blk_far ?_ NB830_847.out _; (with_reducible repeat (first | refine blk_drewN ?_ _ | refine blk_drew ?_ | refine blk_alloc ?_ _)); exact BK830.out) hg (Kd.R_ne HO_14.out BK830.out (by decide))); replace BK847 := ak (blk_grown (g := gb847) (o := .cells #[.int .i64 t844, .int .i64 t845] 37 (0, 0)) (by (with_reducible repeat (first | refine blk_drewN ?_ _ | refine blk_drew ?_ | refine blk_alloc ?_ _)); refine blk_put (cs := #[.int .i64 t844, .int .i64 0]) ?_ 1 _ rfl; (with_reducible repeat (first | refine blk_drewN ?_ _ | refine blk_drew ?_ | refine blk_alloc ?_ _)); refine blk_put (cs := #[.int .i64 0, .int .i64 0]) ?_ 0 _ rfl; (with_reducible repeat (first | refine blk_drewN ?_ _ | refine blk_drew ?_ | refine blk_alloc ?_ _)); exact BK847.out) hg (Kd.R_ne HO_14.out BK847.out (by decide))); replace HB := ak hb; have HO850 := ak ho; clear HO_14; clear ho hb hg hat))
                   go_roundg k2
                   case measure => have := HJ6.out; have := HK2.out; omega
                   case rel => exact ⟨(y848), (wrap64 (x15_2 + 1)), es, H', ⟨by have := HJ6.out; have := HK2.out; omega⟩, ⟨by (with_reducible repeat (first | apply Kd.R_alloc | apply Kd.R_drewN | apply Kd.R_drew)); exact Kd.R_mono HO_12.out (fun _ hk => hk.2)⟩, ⟨kr HO850⟩, ⟨bk BK821⟩, ⟨bk BK822⟩, ⟨bk BK830⟩, ⟨by repeat (first | (with_reducible first | exact HB.out | apply below_alloc | apply pw_below_drewN | apply below_drew1 | refine below_set ?_ GE821.out | refine below_set ?_ GE822.out | refine below_set ?_ GE830.out | refine below_set ?_ GE847.out) | exact HB.out)⟩⟩
                 · rw [if_neg c42] at H
                   exact absurd H (by simp)
             · rw [if_neg c34] at H
               have c34b0 : ((rd t823 x15_2) == 0) = false := beq_eq_false_iff_ne.mpr c34
               have c34b1 : ((rd t823 x15_2) != 0) = true := bne_iff_ne.mpr c34
               have H' := Aside0.mk H
               clear H
               have p836 : 0 ≤ (x15_2 : Int) := of_decide_eq_true am
               have q836 : x15_2 < (t823.length : Int) := of_decide_eq_true am
               obtain ⟨ad836, e836, hx836_0⟩ := Kd.at_int (Kd.R_reads' HO_12.out).2.2 x15_2 p836 q836
               cases e836
               replace p836 := eq_true p836
               replace q836 := eq_true q836
               go_wp2
               go_roundg k2
               case measure => have := HJ6.out; have := HK2.out; omega
               case rel => exact ⟨(x14_2), (wrap64 (x15_2 + 1)), es, H', ⟨by have := HJ6.out; have := HK2.out; omega⟩, ⟨kr HO_12⟩, ⟨kr HO_14⟩, ⟨bk BK821⟩, ⟨bk BK822⟩, ⟨bk BK830⟩, ⟨bl3 GE821 GE822 GE830⟩⟩
           · rw [if_neg c33] at H
             exact absurd H (by simp)
         · rw [if_neg c32] at H
           exact absurd H (by simp)
       · rw [if_neg c31] at H
         have c31b0 : decide (x15_2 < (l0.length : Int)) = false := decide_eq_false c31
         clear c31
         replace H := Option.bind_eq_some_iff.mp H
         obtain ⟨⟨t834, t835⟩, A520, H⟩ := H
         replace H : (if t835 = true then (some (0, 0, 0, 0, false)) else (some (t827, t828, t829, t834, true))) = some (r1, r2, r3, r4, r5) := H
         have A52 := Aside0.mk A520
         clear A520
         by_cases c53 : t835 = true
         · subst c53
           replace H := iT H
           simp only [Option.some.injEq, Prod.mk.injEq] at H
           obtain ⟨rfl, rfl, rfl, rfl, rfl⟩ := H
           obtain ⟨Ao54, co54, eo54⟩ := Kd.R_slice HO_14.out
           subst eo54
           go_wp2_with (first | ((with_reducible refine gate_callee (f := 104) rfl ?_); refine gl (some 95) Try.func104 #[.slice Ao54 x14_2.length co54] ?_; (with_reducible refine (spec_AddValues.calls k2 _ _ x14_2 t834 true _ ?side1 ?side2 A52.out).mono ?_); (case side1 => repeat (first | exact (Kd.R_reads' HO_14.out).2.2 | (with_reducible refine Kd.C_alloc ?_ _) | (with_reducible refine Kd.C_drewN ?_ _) | (with_reducible refine Kd.C_drew ?_))); (case side2 => exact (Kd.R_reads' HO_14.out).2.1); rintro e w' ⟨rfl, ⟨nd, rfl⟩⟩; refine ⟨_, rfl, ?_⟩; (try (rw [drewN_self wr]; generalize hq_ : World.drewN wr _ = wr; have n0_ : Aside0 (Kd.R (Kd.int .i64) 3 wr w.heap.size (fun k_ => some k_ ≠ (.slice Ao54 x14_2.length co54 : Value).ownBlock) (.slice Ao24 t823.length co24) t823) := ⟨by rw [← hq_]; exact (kr HO_12)⟩; have n1_ : Aside0 (Kd.R (Kd.int .i64) 3 wr w.heap.size (fun k_ => some k_ ≠ (.slice Ao24 t823.length co24 : Value).ownBlock) (.slice Ao54 x14_2.length co54) x14_2) := ⟨by rw [← hq_]; exact (kr HO_14)⟩; have n2_ : Aside0 (wr.heap[gb821]? = some (.cells #[.int .i64 a4_0, .int .i64 a4_1, .int .i64 a4_2] 61 (0, 0))) := ⟨by rw [← hq_]; exact (bk BK821)⟩; have n3_ : Aside0 (wr.heap[gb822]? = some (.cells #[.int .i64 0, .int .i64 0, .int .i64 0, .int .i64 0] 83 (0, 0))) := ⟨by rw [← hq_]; exact (bk BK822)⟩; have n4_ : Aside0 (wr.heap[gb830]? = some (.cells #[.int .i64 t827, .int .i64 t828, .int .i64 t829, .int .i64 0] 83 (0, 0))) := ⟨by rw [← hq_]; exact (bk BK830)⟩; have n5_ : Aside0 (Below w.heap.size w wr) := ⟨by rw [← hq_]; exact (bl3 GE821 GE822 GE830)⟩; clear HO_12 HO_14 BK821 BK822 BK830 HB hq_; have HO_12 := n0_; have HO_14 := n1_; have BK821 := n2_; have BK822 := n3_; have BK830 := n4_; have HB := n5_; clear n0_ n1_ n2_ n3_ n4_ n5_)); have hnb55 := NB822_821.out; have hnc55 := NB821_822.out; have hnb56 := NB822_830.out; have hnc56 := NB830_822.out; obtain ⟨hcz57_0, hcz57_1, hcz57_2, hcz57_3, hfz57_0, hfz57_1, hfz57_2, hfz57_3⟩ := cz4 BK822))
           refine bodyPost_ret (results_ct rfl _ _ gb822 83 #[.int .i64 0, .int .i64 0, .int .i64 0, .int .i64 0] (0, 0) _ rfl (by (with_reducible repeat (first | refine blk_drewN ?_ _ | refine blk_drew ?_ | refine blk_alloc ?_ _)); refine blk_put (cs := #[.int .i64 0, .int .i64 0, .int .i64 0, .int .i64 0]) ?_ 3 _ rfl; (with_reducible repeat (first | refine blk_drewN ?_ _ | refine blk_drew ?_ | refine blk_alloc ?_ _)); refine blk_put (cs := #[.int .i64 0, .int .i64 0, .int .i64 0, .int .i64 0]) ?_ 2 _ rfl; (with_reducible repeat (first | refine blk_drewN ?_ _ | refine blk_drew ?_ | refine blk_alloc ?_ _)); refine blk_put (cs := #[.int .i64 0, .int .i64 0, .int .i64 0, .int .i64 0]) ?_ 1 _ rfl; (with_reducible repeat (first | refine blk_drewN ?_ _ | refine blk_drew ?_ | refine blk_alloc ?_ _)); refine blk_put (cs := #[.int .i64 0, .int .i64 0, .int .i64 0, .int .i64 0]) ?_ 0 _ rfl; (with_reducible repeat (first | refine blk_drewN ?_ _ | refine blk_drew ?_ | refine blk_alloc ?_ _)); exact BK822.out) Try.underlying83 rfl (by kernel_rfl)) rfl ?_
           exact ⟨ew, bl3 GE821 GE822 GE830⟩
         · replace c53 := Bool.eq_false_iff.mpr c53
           subst c53
           replace H := iF H
           simp only [Option.some.injEq, Prod.mk.injEq] at H
           obtain ⟨rfl, rfl, rfl, rfl, rfl⟩ := H
           obtain ⟨Ao58, co58, eo58⟩ := Kd.R_slice HO_14.out
           subst eo58
           go_wp2_with (first | ((with_reducible refine gate_callee (f := 104) rfl ?_); refine gl (some 95) Try.func104 #[.slice Ao58 x14_2.length co58] ?_; (with_reducible refine (spec_AddValues.calls k2 _ _ x14_2 t834 false _ ?side1 ?side2 A52.out).mono ?_); (case side1 => repeat (first | exact (Kd.R_reads' HO_14.out).2.2 | (with_reducible refine Kd.C_alloc ?_ _) | (with_reducible refine Kd.C_drewN ?_ _) | (with_reducible refine Kd.C_drew ?_))); (case side2 => exact (Kd.R_reads' HO_14.out).2.1); rintro e w' ⟨rfl, ⟨nd, rfl⟩⟩; refine ⟨_, rfl, ?_⟩; (try (rw [drewN_self wr]; generalize hq_ : World.drewN wr _ = wr; have n0_ : Aside0 (Kd.R (Kd.int .i64) 3 wr w.heap.size (fun k_ => some k_ ≠ (.slice Ao58 x14_2.length co58 : Value).ownBlock) (.slice Ao24 t823.length co24) t823) := ⟨by rw [← hq_]; exact (kr HO_12)⟩; have n1_ : Aside0 (Kd.R (Kd.int .i64) 3 wr w.heap.size (fun k_ => some k_ ≠ (.slice Ao24 t823.length co24 : Value).ownBlock) (.slice Ao58 x14_2.length co58) x14_2) := ⟨by rw [← hq_]; exact (kr HO_14)⟩; have n2_ : Aside0 (wr.heap[gb821]? = some (.cells #[.int .i64 a4_0, .int .i64 a4_1, .int .i64 a4_2] 61 (0, 0))) := ⟨by rw [← hq_]; exact (bk BK821)⟩; have n3_ : Aside0 (wr.heap[gb822]? = some (.cells #[.int .i64 0, .int .i64 0, .int .i64 0, .int .i64 0] 83 (0, 0))) := ⟨by rw [← hq_]; exact (bk BK822)⟩; have n4_ : Aside0 (wr.heap[gb830]? = some (.cells #[.int .i64 t827, .int .i64 t828, .int .i64 t829, .int .i64 0] 83 (0, 0))) := ⟨by rw [← hq_]; exact (bk BK830)⟩; have n5_ : Aside0 (Below w.heap.size w wr) := ⟨by rw [← hq_]; exact (bl3 GE821 GE822 GE830)⟩; clear HO_12 HO_14 BK821 BK822 BK830 HB hq_; have HO_12 := n0_; have HO_14 := n1_; have BK821 := n2_; have BK822 := n3_; have BK830 := n4_; have HB := n5_; clear n0_ n1_ n2_ n3_ n4_ n5_)); have hnb59 := NB830_821.out; have hnc59 := NB821_830.out; have hnb60 := NB830_822.out; have hnc60 := NB822_830.out; obtain ⟨hcz61_0, hcz61_1, hcz61_2, hcz61_3, hfz61_0, hfz61_1, hfz61_2, hfz61_3⟩ := cz4 BK830; have hnb62 := NB822_821.out; have hnc62 := NB821_822.out; obtain ⟨hcz63_0, hcz63_1, hcz63_2, hcz63_3, hfz63_0, hfz63_1, hfz63_2, hfz63_3⟩ := cz4 BK822))
           refine bodyPost_ret (results_ct rfl _ _ gb822 83 #[.int .i64 t827, .int .i64 t828, .int .i64 t829, .int .i64 t834] (0, 0) _ rfl (by (with_reducible repeat (first | refine blk_drewN ?_ _ | refine blk_drew ?_ | refine blk_alloc ?_ _)); refine blk_put (cs := #[.int .i64 t827, .int .i64 t828, .int .i64 t829, .int .i64 0]) ?_ 3 _ rfl; (with_reducible repeat (first | refine blk_drewN ?_ _ | refine blk_drew ?_ | refine blk_alloc ?_ _)); refine blk_put (cs := #[.int .i64 t827, .int .i64 t828, .int .i64 0, .int .i64 0]) ?_ 2 _ rfl; (with_reducible repeat (first | refine blk_drewN ?_ _ | refine blk_drew ?_ | refine blk_alloc ?_ _)); refine blk_put (cs := #[.int .i64 t827, .int .i64 0, .int .i64 0, .int .i64 0]) ?_ 1 _ rfl; (with_reducible repeat (first | refine blk_drewN ?_ _ | refine blk_drew ?_ | refine blk_alloc ?_ _)); refine blk_put (cs := #[.int .i64 0, .int .i64 0, .int .i64 0, .int .i64 0]) ?_ 0 _ rfl; (with_reducible repeat (first | refine blk_drewN ?_ _ | refine blk_drew ?_ | refine blk_alloc ?_ _)); refine blk_far ?_ NB822_830.out _; (with_reducible repeat (first | refine blk_drewN ?_ _ | refine blk_drew ?_ | refine blk_alloc ?_ _)); exact BK822.out) Try.underlying83 rfl (by kernel_rfl)) rfl ?_
           exact ⟨ew, bl3 GE821 GE822 GE830⟩

end Go.Proofs.Ytplekidnlofioaa.Q
namespace Go.Proofs.Ytplekidnlofioaa.Q
open Go.RowKit Go.Proofs.YtplekidnlofioaaW.PrintWords Go.Proofs.YtplekidnlofioaaW.PrintLast Go.Proofs.YtplekidnlofioaaW.PrintMore
attribute [local go_sem] max2_int min2_int max_two min_two max_three min_three max_four min_four   -- for this text's walks alone
set_option linter.unusedVariables false
set_option linter.unusedSimpArgs false

/-! ### impl_in: function 124 -/
def impl_in.f (a0 : Int) (a1 : Int) (a2 : Int) : Option (Bool) := if a0 ≥ a1 then (some (decide (a0 ≤ a2))) else (some false)
set_option maxHeartbeats 8000000 in
set_option maxRecDepth 100000 in
theorem impl_in.calls (a0 : Int) (a1 : Int) (a2 : Int) (r : Bool) (w : World) (h : impl_in.f a0 a1 a2 = some r) :
 Calls Try.prog 124 #[.int .i64 a0, .int .i64 a1, .int .i64 a2] w fun e w' => e = .returned (.bool r) ∧ Drawn0 w w' := by
 have H : (if a0 ≥ a1 then (some (decide (a0 ≤ a2))) else (some false)) = some r := h
 clear h
 by_cases c4 : a0 ≥ a1
 · rw [if_pos c4] at H
   have c4b0 : decide (a1 ≤ a0) = true := decide_eq_true c4
   clear c4
   obtain rfl := Option.some.inj H
   go_enter Try.func124, Try.ntmps124
   go_wp2
   go_ret
   exact ⟨es, dr0⟩
 · rw [if_neg c4] at H
   have c4b0 : decide (a1 ≤ a0) = false := decide_eq_false c4
   clear c4
   obtain rfl := Option.some.inj H
   go_enter Try.func124, Try.ntmps124
   go_wp2
   go_ret
   exact ⟨es, dr0⟩

end Go.Proofs.Ytplekidnlofioaa.Q
namespace Go.Proofs.Ytplekidnlofioaa.Q
open Go.RowKit Go.Proofs.YtplekidnlofioaaW.PrintWords Go.Proofs.YtplekidnlofioaaW.PrintLast Go.Proofs.YtplekidnlofioaaW.PrintMore
attribute [local go_sem] max2_int min2_int max_two min_two max_three min_three max_four min_four   -- for this text's walks alone
set_option linter.unusedVariables false
set_option linter.unusedSimpArgs false

/-! ### impl_isTick: function 122 -/
def impl_isTick.f (a0 : Int) : Option (Bool) := (impl_in.f a0 0 1000000000).bind fun t102 => (some t102)
set_option maxHeartbeats 8000000 in
set_option maxRecDepth 100000 in
theorem impl_isTick.calls (a0 : Int) (r : Bool) (w : World) (h : impl_isTick.f a0 = some r) :
 Calls Try.prog 122 #[.int .i64 a0] w fun e w' => e = .returned (.bool r) ∧ Drawn0 w w' := by
 have H : ((impl_in.f a0 0 1000000000).bind fun t102 => (some t102)) = some r := h
 clear h
 obtain ⟨t102, A20, H⟩ := bo H
 have A2 := Aside0.mk A20
 clear A20
 obtain rfl := Option.some.inj H
 go_enter Try.func122, Try.ntmps122
 go_wp2_with (first | ((with_reducible refine gate_callee (f := 124) rfl ?_); refine gl (some 4) Try.func124 #[.int .i64 a0, .int .i64 0, .int .i64 1000000000] ?_; (with_reducible refine (impl_in.calls a0 0 1000000000 t102 _ A2.out).mono ?_); rintro e w' ⟨rfl, ⟨nd, rfl⟩⟩; refine ⟨_, rfl, ?_⟩))
 go_ret
 exact ⟨es, dr0⟩

end Go.Proofs.Ytplekidnlofioaa.Q
namespace Go.Proofs.Ytplekidnlofioaa.Q
open Go.RowKit Go.Proofs.YtplekidnlofioaaW.PrintWords Go.Proofs.YtplekidnlofioaaW.PrintLast Go.Proofs.YtplekidnlofioaaW.PrintMore
attribute [local go_sem] max2_int min2_int max_two min_two max_three min_three max_four min_four   -- for this text's walks alone
set_option linter.unusedVariables false
set_option linter.unusedSimpArgs false

/-! ### impl_isSize: function 150 -/
def impl_isSize.f (a0 : Int) : Option (Bool) := (impl_in.f a0 0 1000000000).bind fun t103 => (some t103)
set_option maxHeartbeats 8000000 in
set_option maxRecDepth 100000 in
theorem impl_isSize.calls (a0 : Int) (r : Bool) (w : World) (h : impl_isSize.f a0 = some r) :
 Calls Try.prog 150 #[.int .i64 a0] w fun e w' => e = .returned (.bool r) ∧ Drawn0 w w' := by
 have H : ((impl_in.f a0 0 1000000000).bind fun t103 => (some t103)) = some r := h
 clear h
 obtain ⟨t103, A20, H⟩ := bo H
 have A2 := Aside0.mk A20
 clear A20
 obtain rfl := Option.some.inj H
 go_enter Try.func150, Try.ntmps150
 go_wp2_with (first | ((with_reducible refine gate_callee (f := 124) rfl ?_); refine gl (some 4) Try.func124 #[.int .i64 a0, .int .i64 0, .int .i64 1000000000] ?_; (with_reducible refine (impl_in.calls a0 0 1000000000 t103 _ A2.out).mono ?_); rintro e w' ⟨rfl, ⟨nd, rfl⟩⟩; refine ⟨_, rfl, ?_⟩))
 go_ret
 exact ⟨es, dr0⟩

end Go.Proofs.Ytplekidnlofioaa.Q
namespace Go.Proofs.Ytplekidnlofioaa.Q
open Go.RowKit Go.Proofs.YtplekidnlofioaaW.PrintWords Go.Proofs.YtplekidnlofioaaW.PrintLast Go.Proofs.YtplekidnlofioaaW.PrintMore
attribute [local go_sem] max2_int min2_int max_two min_two max_three min_three max_four min_four   -- for this text's walks alone
set_option linter.unusedVariables false
set_option linter.unusedSimpArgs false

/-! ### impl_NameOk: function 151 -/
def impl_NameOk.l0 : Nat → ByteArray → Int → Int → Option (Bool)
 | 0, _, _, _ => none
 | k + 1, x0, x6, x7 => if x7 < x6 then (if 0 ≤ x7 then (if x7 < (x0.size : Int) then (if (bt x0 x7) < 97 then (if (bt x0 x7) < 48 then (some false) else (if (bt x0 x7) > 57 then (some false) else (impl_NameOk.l0 k x0 x6 (wrap64 (x7 + 1))))) else (if (bt x0 x7) > 122 then (if (bt x0 x7) < 48 then (some false) else (if (bt x0 x7) > 57 then (some false) else (impl_NameOk.l0 k x0 x6 (wrap64 (x7 + 1))))) else (impl_NameOk.l0 k x0 x6 (wrap64 (x7 + 1))))) else (none)) else (none)) else ((impl_in.f (x0.size : Int) 1 12).bind fun t104 => (some t104))
def impl_NameOk.f (k : Nat) (a0 : ByteArray) : Option (Bool) := impl_NameOk.l0 k a0 (a0.size : Int) 0
theorem impl_NameOk.mono_l : ∀ k, (∀ y0 y1 y2, LeO (impl_NameOk.l0 k y0 y1 y2) (impl_NameOk.l0 (k + 1) y0 y1 y2))
 | 0 => fun _ _ _ r h => by simp [impl_NameOk.l0] at h
 | k + 1 => by
  have ih0 := impl_NameOk.mono_l k
  · intro y0 y1 y2
    unfold impl_NameOk.l0
    repeat' first
    | (with_reducible exact ih0 _ _ _)
    | (with_reducible exact LeO.refl _)
    | (with_reducible exact LeO.none _)
    | (with_reducible refine LeO.ite ?_ ?_)
    | (with_reducible refine LeO.bind ?_ (fun _ => ?_))
    | exact ih0 _ _ _
    | exact LeO.none _
    | refine LeO.ite ?_ ?_
    | refine LeO.bind ?_ (fun _ => ?_)
theorem impl_NameOk.mono : ∀ a0 k, LeO (impl_NameOk.f k a0) (impl_NameOk.f (k + 1) a0) := by
 intro a0 k
 have ih0 := impl_NameOk.mono_l k
 unfold impl_NameOk.f
 repeat' first
  | (with_reducible exact ih0 _ _ _)
  | (with_reducible exact LeO.refl _)
  | (with_reducible exact LeO.none _)
  | (with_reducible refine LeO.ite ?_ ?_)
  | (with_reducible refine LeO.bind ?_ (fun _ => ?_))
  | exact ih0 _ _ _
  | exact LeO.none _
  | refine LeO.ite ?_ ?_
  | refine LeO.bind ?_ (fun _ => ?_)
set_option maxHeartbeats 8000000 in
set_option maxRecDepth 100000 in
theorem impl_NameOk.calls (k : Nat) (a0 : ByteArray) (r : Bool) (w : World) (h : impl_NameOk.f k a0 = some r) :
 Calls Try.prog 151 #[.string a0] w fun e w' => e = .returned (.bool r) ∧ Drawn0 w w' := by
 have H : (impl_NameOk.l0 k a0 (a0.size : Int) 0) = some r := h
 clear h
 have H' := Aside0.mk H
 clear H
 go_enter Try.func151, Try.ntmps151
 go_wp2
 go_loopg [7] k (fun kq v7 w' => ∃ (x7_1 : Int), v7 = .int .i64 x7_1 ∧ Aside0 (impl_NameOk.l0 kq a0 (a0.size : Int) x7_1 = some r) ∧ Aside0 (kq ≤ k) ∧ Drawn0 w w')
 case atStart => exact ⟨(0), es, H', ⟨Nat.le_refl _⟩, dr0⟩
 case round =>
  clear H'
  try clear c1
  obtain ⟨x7_1, rfl, HA, HK1, ⟨m1, rfl⟩⟩ := hrel
  cases gk with
  | zero => exact absurd HA.out (by simp [impl_NameOk.l0])
  | succ k1 =>
   have H := HA.out
   clear HA
   simp only [impl_NameOk.l0] at H
   by_cases c2 : x7_1 < (a0.size : Int)
   · rw [if_pos c2] at H
     have c2b0 : decide (x7_1 < (a0.size : Int)) = true := decide_eq_true c2
     clear c2
     by_cases c3 : 0 ≤ x7_1
     · rw [if_pos c3] at H
       have c3b0 : decide (0 ≤ x7_1) = true := decide_eq_true c3
       clear c3
       by_cases c4 : x7_1 < (a0.size : Int)
       · rw [if_pos c4] at H
         have c4b0 : decide (x7_1 < (a0.size : Int)) = true := decide_eq_true c4
         clear c4
         by_cases c6 : (bt a0 x7_1) < 97
         · rw [if_pos c6] at H
           have c6b0 : decide ((bt a0 x7_1) < 97) = true := decide_eq_true c6
           clear c6
           by_cases c7 : (bt a0 x7_1) < 48
           · rw [if_pos c7] at H
             have c7b0 : decide ((bt a0 x7_1) < 48) = true := decide_eq_true c7
             clear c7
             obtain rfl := Option.some.inj H
             have p5 : 0 ≤ (x7_1 : Int) := of_decide_eq_true am
             have q5 : x7_1 < (a0.size : Int) := of_decide_eq_true am
             have hx5 := bt_at a0 x7_1
             replace p5 := eq_true p5
             replace q5 := eq_true q5
             go_wp2
             go_ret
             exact ⟨es, dr0⟩
           · rw [if_neg c7] at H
             have c7b0 : decide ((bt a0 x7_1) < 48) = false := decide_eq_false c7
             clear c7
             by_cases c8 : (bt a0 x7_1) > 57
             · rw [if_pos c8] at H
               have c8b0 : decide (57 < (bt a0 x7_1)) = true := decide_eq_true c8
               clear c8
               obtain rfl := Option.some.inj H
               have p5 : 0 ≤ (x7_1 : Int) := of_decide_eq_true am
               have q5 : x7_1 < (a0.size : Int) := of_decide_eq_true am
               have hx5 := bt_at a0 x7_1
               replace p5 := eq_true p5
               replace q5 := eq_true q5
               go_wp2
               go_ret
               exact ⟨es, dr0⟩
             · rw [if_neg c8] at H
               have c8b0 : decide (57 < (bt a0 x7_1)) = false := decide_eq_false c8
               clear c8
               have H' := Aside0.mk H
               clear H
               have p5 : 0 ≤ (x7_1 : Int) := of_decide_eq_true am
               have q5 : x7_1 < (a0.size : Int) := of_decide_eq_true am
               have hx5 := bt_at a0 x7_1
               replace p5 := eq_true p5
               replace q5 := eq_true q5
               go_wp2
               go_roundg k1
               case measure => have := HK1.out; omega
               case rel => exact ⟨(wrap64 (x7_1 + 1)), es, H', ⟨kp⟩, dr0⟩
         · rw [if_neg c6] at H
           have c6b0 : decide ((bt a0 x7_1) < 97) = false := decide_eq_false c6
           clear c6
           by_cases c9 : (bt a0 x7_1) > 122
           · rw [if_pos c9] at H
             have c9b0 : decide (122 < (bt a0 x7_1)) = true := decide_eq_true c9
             clear c9
             by_cases c10 : (bt a0 x7_1) < 48
             · rw [if_pos c10] at H
               have c10b0 : decide ((bt a0 x7_1) < 48) = true := decide_eq_true c10
               clear c10
               obtain rfl := Option.some.inj H
               have p5 : 0 ≤ (x7_1 : Int) := of_decide_eq_true am
               have q5 : x7_1 < (a0.size : Int) := of_decide_eq_true am
               have hx5 := bt_at a0 x7_1
               replace p5 := eq_true p5
               replace q5 := eq_true q5
               go_wp2
               go_ret
               exact ⟨es, dr0⟩
             · rw [if_neg c10] at H
               have c10b0 : decide ((bt a0 x7_1) < 48) = false := decide_eq_false c10
               clear c10
               by_cases c11 : (bt a0 x7_1) > 57
               · rw [if_pos c11] at H
                 have c11b0 : decide (57 < (bt a0 x7_1)) = true := decide_eq_true c11
                 clear c11
                 obtain rfl := Option.some.inj H
                 have p5 : 0 ≤ (x7_1 : Int) := of_decide_eq_true am
                 have q5 : x7_1 < (a0.size : Int) := of_decide_eq_true am
                 have hx5 := bt_at a0 x7_1
                 replace p5 := eq_true p5
                 replace q5 := eq_true q5
                 go_wp2
                 go_ret
                 exact ⟨es, dr0⟩
               · rw [if_neg c11] at H
                 have c11b0 : decide (57 < (bt a0 x7_1)) = false := decide_eq_false c11
                 clear c11
                 have H' := Aside0.mk H
                 clear H
                 have p5 : 0 ≤ (x7_1 : Int) := of_decide_eq_true am
                 have q5 : x7_1 < (a0.size : Int) := of_decide_eq_true am
                 have hx5 := bt_at a0 x7_1
                 replace p5 := eq_true p5
                 replace q5 := eq_true q5
                 go_wp2
                 go_roundg k1
                 case measure => have := HK1.out; omega
                 case rel => exact ⟨(wrap64 (x7_1 + 1)), es, H', ⟨kp⟩, dr0⟩
           · rw [if_neg c9] at H
             have c9b0 : decide (122 < (bt a0 x7_1)) = false := decide_eq_false c9
             clear c9
             have H' := Aside0.mk H
             clear H
             have p5 : 0 ≤ (x7_1 : Int) := of_decide_eq_true am
             have q5 : x7_1 < (a0.size : Int) := of_decide_eq_true am
             have hx5 := bt_at a0 x7_1
             replace p5 := eq_true p5
             replace q5 := eq_true q5
             go_wp2
             go_roundg k1
             case measure => have := HK1.out; omega
             case rel => exact ⟨(wrap64 (x7_1 + 1)), es, H', ⟨kp⟩, dr0⟩
       · rw [if_neg c4] at H
         exact absurd H (by simp)
     · rw [if_neg c3] at H
       exact absurd H (by simp)
   · rw [if_neg c2] at H
     have c2b0 : decide (x7_1 < (a0.size : Int)) = false := decide_eq_false c2
     clear c2
     obtain ⟨t104, A120, H⟩ := bo H
     have A12 := Aside0.mk A120
     clear A120
     obtain rfl := Option.some.inj H
     go_wp2_with (first | ((with_reducible refine gate_callee (f := 124) rfl ?_); refine gl (some 30) Try.func124 #[.int .i64 (a0.size : Int), .int .i64 1, .int .i64 12] ?_; (with_reducible refine (impl_in.calls (a0.size : Int) 1 12 t104 _ A12.out).mono ?_); rintro e w' ⟨rfl, ⟨nd, rfl⟩⟩; refine ⟨_, rfl, ?_⟩))
     go_ret
     exact ⟨es, dr0⟩

end Go.Proofs.Ytplekidnlofioaa.Q
namespace Go.Proofs.Ytplekidnlofioaa.Q
open Go.RowKit Go.Proofs.YtplekidnlofioaaW.PrintWords Go.Proofs.YtplekidnlofioaaW.PrintLast Go.Proofs.YtplekidnlofioaaW.PrintMore
attribute [local go_sem] max2_int min2_int max_two min_two max_three min_three max_four min_four   -- for this text's walks alone
set_option linter.unusedVariables false
set_option linter.unusedSimpArgs false

/-! ### impl_Series_ok: function 98 -/
def impl_Series_ok.l0 : Nat → List (S37) → Int → Int → ByteArray → ByteArray → List (S37) → Option (Bool)
 | 0, _, _, _, _, _, _ => none
 | k + 1, x6, x7, x8, x106000, x106001, x106002 => if x8 < x7 then (if 0 ≤ x8 then (if x8 < (x6.length : Int) then ((impl_isTick.f ((rd_T37 x6 x8).f0)).bind fun t111 => (if t111 = true then ((impl_isSize.f ((rd_T37 x6 x8).f1)).bind fun t112 => (if t112 = true then (if x8 > 0 then (if 0 ≤ (wrap64 (x8 - 1)) then (if (wrap64 (x8 - 1)) < (x106002.length : Int) then (if ((rd_T37 x106002 (wrap64 (x8 - 1))).f0) ≥ ((rd_T37 x6 x8).f0) then (some false) else (impl_Series_ok.l0 k x6 x7 (wrap64 (x8 + 1)) x106000 x106001 x106002)) else (none)) else (none)) else (impl_Series_ok.l0 k x6 x7 (wrap64 (x8 + 1)) x106000 x106001 x106002)) else (some false))) else (some false))) else (none)) else (none)) else ((impl_NameOk.f k x106000).bind fun t106 => (if t106 = true then ((impl_NameOk.f k x106001).bind fun t107 => (if t107 = true then ((impl_in.f (x106002.length : Int) 1 12).bind fun t108 => (some t108)) else (some false))) else (some false)))
def impl_Series_ok.f (k : Nat) (a0_0 : ByteArray) (a0_1 : ByteArray) (l0_2 : List (S37)) : Option (Bool) := impl_Series_ok.l0 k l0_2 (l0_2.length : Int) 0 a0_0 a0_1 l0_2
theorem impl_Series_ok.mono_l : ∀ k, (∀ y0 y1 y2 y3 y4 y5, LeO (impl_Series_ok.l0 k y0 y1 y2 y3 y4 y5) (impl_Series_ok.l0 (k + 1) y0 y1 y2 y3 y4 y5))
 | 0 => fun _ _ _ _ _ _ r h => by simp [impl_Series_ok.l0] at h
 | k + 1 => by
  have ih0 := impl_Series_ok.mono_l k
  · intro y0 y1 y2 y3 y4 y5
    unfold impl_Series_ok.l0
    repeat' first
    | (with_reducible exact ih0 _ _ _ _ _ _)
    | (with_reducible exact impl_NameOk.mono _ _)
    | (with_reducible exact LeO.refl _)
    | (with_reducible exact LeO.none _)
    | (with_reducible refine LeO.ite ?_ ?_)
    | (with_reducible refine LeO.bind ?_ (fun _ => ?_))
    | exact ih0 _ _ _ _ _ _
    | exact impl_NameOk.mono _ _
    | exact LeO.none _
    | refine LeO.ite ?_ ?_
    | refine LeO.bind ?_ (fun _ => ?_)
theorem impl_Series_ok.mono : ∀ a0 a1 a2 k, LeO (impl_Series_ok.f k a0 a1 a2) (impl_Series_ok.f (k + 1) a0 a1 a2) := by
 intro a0 a1 a2 k
 have ih0 := impl_Series_ok.mono_l k
 unfold impl_Series_ok.f
 repeat' first
  | (with_reducible exact ih0 _ _ _ _ _ _)
  | (with_reducible exact impl_NameOk.mono _ _)
  | (with_reducible exact LeO.refl _)
  | (with_reducible exact LeO.none _)
  | (with_reducible refine LeO.ite ?_ ?_)
  | (with_reducible refine LeO.bind ?_ (fun _ => ?_))
  | exact ih0 _ _ _ _ _ _
  | exact impl_NameOk.mono _ _
  | exact LeO.none _
  | refine LeO.ite ?_ ?_
  | refine LeO.bind ?_ (fun _ => ?_)
set_option maxHeartbeats 8000000 in
set_option maxRecDepth 100000 in
theorem impl_Series_ok.calls (k : Nat) (a0_0 : ByteArray) (a0_1 : ByteArray) (A0_2 : Option Addr) (c0_2 : Nat) (l0_2 : List (S37)) (r : Bool) (w : World) (hr0_2 : Kd.C k37 w A0_2 l0_2.length l0_2) (hc0_2 : l0_2.length ≤ c0_2) (h : impl_Series_ok.f k a0_0 a0_1 l0_2 = some r) :
 Calls Try.prog 98 #[.agg #[.string a0_0, .string a0_1, .slice A0_2 l0_2.length c0_2]] w fun e w' => e = .returned (.bool r) ∧ Below w.heap.size w w' := by
 have hu81 := Try.underlying81
 have hu37 := Try.underlying37
 have HR0_2 := Aside0.mk hr0_2
 have HC0_2 := Aside0.mk hc0_2
 clear hr0_2 hc0_2
 have HB := Aside0.mk (Below.refl w.heap.size w)
 have H : (impl_Series_ok.l0 k l0_2 (l0_2.length : Int) 0 a0_0 a0_1 l0_2) = some r := h
 clear h
 have H' := Aside0.mk H
 clear H
 go_enter Try.func98, Try.ntmps98
 go_wp2_with (first | ((with_reducible refine gate_dst (N := 1) rfl ?_); (try (refine gate_guard (by rfl) ?_; dsimp only)); refine bx 1 #[.string a0_0, .string a0_1, .slice A0_2 l0_2.length c0_2] 81 ?_; intro gb105 hg w2 hbox hb; have BK105 := ak hbox; have GW105 := gs hg bl; have GE105 := gs hg bl; replace HB := ak (below_step bl hb); clear hb hbox hg; obtain ⟨hcz3_0, hcz3_1, hcz3_2, hfz3_0, hfz3_1, hfz3_2⟩ := cz3 BK105))
 repeat (go_quiet (first | ((with_reducible refine gate_dst (N := 1) rfl ?_); (try (refine gate_guard (by rfl) ?_; dsimp only)); refine bx 1 #[.string a0_0, .string a0_1, .slice A0_2 l0_2.length c0_2] 81 ?_; intro gb105 hg w2 hbox hb; have BK105 := ak hbox; have GW105 := gs hg bl; have GE105 := gs hg bl; replace HB := ak (below_step bl hb); clear hb hbox hg; obtain ⟨hcz3_0, hcz3_1, hcz3_2, hfz3_0, hfz3_1, hfz3_2⟩ := cz3 BK105)); try go_wp2_with (first | ((with_reducible refine gate_dst (N := 1) rfl ?_); (try (refine gate_guard (by rfl) ?_; dsimp only)); refine bx 1 #[.string a0_0, .string a0_1, .slice A0_2 l0_2.length c0_2] 81 ?_; intro gb105 hg w2 hbox hb; have BK105 := ak hbox; have GW105 := gs hg bl; have GE105 := gs hg bl; replace HB := ak (below_step bl hb); clear hb hbox hg; obtain ⟨hcz3_0, hcz3_1, hcz3_2, hfz3_0, hfz3_1, hfz3_2⟩ := cz3 BK105)))
 go_loopg [8] k (fun kq v8 w' => ∃ (x8_1 : Int), v8 = .int .i64 x8_1 ∧ Aside0 (impl_Series_ok.l0 kq l0_2 (l0_2.length : Int) x8_1 a0_0 a0_1 l0_2 = some r) ∧ Aside0 (kq ≤ k) ∧ Aside0 (w'.heap[gb105]? = some (.cells #[.string a0_0, .string a0_1, (.slice A0_2 l0_2.length c0_2)] 81 (0, 0))) ∧ Aside0 (Below w.heap.size w w'))
 case atStart => exact ⟨(0), es, H', ⟨Nat.le_refl _⟩, ⟨bk BK105⟩, ⟨bl1 GE105⟩⟩
 case round =>
  clear H'
  try clear p2
  try clear hcz3_0
  try clear hcz3_1
  try clear hcz3_2
  try clear hfz3_0
  try clear hfz3_1
  try clear hfz3_2
  obtain ⟨x8_1, rfl, HA, HK1, BK105, HB⟩ := hrel
  cases gk with
  | zero => exact absurd HA.out (by simp [impl_Series_ok.l0])
  | succ k1 =>
   have H := HA.out
   clear HA
   simp only [impl_Series_ok.l0] at H
   by_cases c4 : x8_1 < (l0_2.length : Int)
   · rw [if_pos c4] at H
     have c4b0 : decide (x8_1 < (l0_2.length : Int)) = true := decide_eq_true c4
     clear c4
     by_cases c5 : 0 ≤ x8_1
     · rw [if_pos c5] at H
       have c5b0 : decide (0 ≤ x8_1) = true := decide_eq_true c5
       clear c5
       by_cases c6 : x8_1 < (l0_2.length : Int)
       · rw [if_pos c6] at H
         have c6b0 : decide (x8_1 < (l0_2.length : Int)) = true := decide_eq_true c6
         clear c6
         obtain ⟨t111, A70, H⟩ := bo H
         have A7 := Aside0.mk A70
         clear A70
         by_cases c8 : t111 = true
         · subst c8
           replace H := iT H
           obtain ⟨t112, A90, H⟩ := bo H
           have A9 := Aside0.mk A90
           clear A90
           by_cases c10 : t112 = true
           · subst c10
             replace H := iT H
             by_cases c11 : x8_1 > 0
             · rw [if_pos c11] at H
               have c11b0 : decide (0 < x8_1) = true := decide_eq_true c11
               clear c11
               obtain ⟨ji12, hji12⟩ : ∃ j_ : Int, (wrap64 (x8_1 - 1)) = j_ := ⟨_, rfl⟩
               replace H : (if 0 ≤ (ji12) then (if (ji12) < (l0_2.length : Int) then (if ((rd_T37 l0_2 (ji12)).f0) ≥ ((rd_T37 l0_2 x8_1).f0) then (some false) else (impl_Series_ok.l0 k1 l0_2 (l0_2.length : Int) (wrap64 (x8_1 + 1)) a0_0 a0_1 l0_2)) else (none)) else (none)) = some r := by first | (rw [hji12] at H; exact H) | (simp only [hji12] at H ⊢; exact H)
               (try rw [hji12] at A7)
               (try rw [hji12] at A9)
               have hji12w : (IntKind.i64.wrap (x8_1 - 1)) = ji12 := (i64_w _).trans hji12
               by_cases c13 : 0 ≤ (ji12)
               · rw [if_pos c13] at H
                 have c13b0 : decide (0 ≤ (ji12)) = true := decide_eq_true c13
                 clear c13
                 by_cases c14 : (ji12) < (l0_2.length : Int)
                 · rw [if_pos c14] at H
                   have c14b0 : decide ((ji12) < (l0_2.length : Int)) = true := decide_eq_true c14
                   clear c14
                   by_cases c15 : ((rd_T37 l0_2 (ji12)).f0) ≥ ((rd_T37 l0_2 x8_1).f0)
                   · rw [if_pos c15] at H
                     have c15b0 : decide (((rd_T37 l0_2 x8_1).f0) ≤ ((rd_T37 l0_2 (ji12)).f0)) = true := decide_eq_true c15
                     clear c15
                     obtain rfl := Option.some.inj H
                     have p109 : 0 ≤ (x8_1 : Int) := of_decide_eq_true am
                     have q109 : x8_1 < (l0_2.length : Int) := of_decide_eq_true am
                     obtain ⟨ad109, e109, hx109_0, hx109_1⟩ := at_T37 HR0_2.out x8_1 p109 q109
                     cases e109
                     replace hx109_0 := cw hx109_0
                     replace hx109_1 := cw hx109_1
                     replace p109 := eq_true p109
                     replace q109 := eq_true q109
                     go_wp2_with (first | ((with_reducible refine gate_dst (N := 4) rfl ?_); (try (refine gate_guard (by rfl) ?_; dsimp only)); refine bx 4 #[.int .i64 0, .int .i64 0] 37 ?_; intro gb110 hg w16 hbox hb; have BK110 := ak hbox; have GW110 := gs hg (bl1 GE105); have GE110 := gs hg (bl1 GE105); replace HB := ak (below_step (bl1 GE105) hb); have NB105_110 := nl hg BK105; have NB110_105 := ng hg BK105; replace BK105 := bb BK105 hb; clear hb hbox hg; have hnb17 := NB110_105.out; have hnc17 := NB105_110.out; obtain ⟨hcz18_0, hcz18_1, hfz18_0, hfz18_1⟩ := cz2 BK110) | (go_at_call 122; (with_reducible refine (impl_isTick.calls ((rd_T37 l0_2 x8_1).f0) true _ A7.out).mono ?_); rintro e w' ⟨rfl, ⟨nd, rfl⟩⟩; (try exact dd)) | (go_at_call 150; (with_reducible refine (impl_isSize.calls ((rd_T37 l0_2 x8_1).f1) true _ A9.out).mono ?_); rintro e w' ⟨rfl, ⟨nd, rfl⟩⟩; (try exact dd); obtain ⟨hcz19_0, hcz19_1, hcz19_2, hfz19_0, hfz19_1, hfz19_2⟩ := cz3 BK105; have p113 : 0 ≤ ((ji12) : Int) := of_decide_eq_true am; have q113 : (ji12) < (l0_2.length : Int) := of_decide_eq_true am; obtain ⟨ad113, e113, hx113_0, hx113_1⟩ := at_T37 HR0_2.out (ji12) p113 q113; obtain rfl : ad109 = ad113 := (by injection e113); have hn113_0 : ad109.block ≠ gb110 := Nat.ne_of_lt (Nat.lt_of_lt_of_le (by have := World.block_lt_of_cell? _ _ hx113_0; first | rwa [add_block] at this | exact this) GW110.out); have hn113_1 : ad109.block ≠ gb110 := Nat.ne_of_lt (Nat.lt_of_lt_of_le (by have := World.block_lt_of_cell? _ _ hx113_0; first | rwa [add_block] at this | exact this) GW110.out); replace hx113_0 := cw hx113_0; replace hx113_1 := cw hx113_1; replace hx113_0 := (cell_far (p := ⟨gb110, 0, none⟩) (by first | (rw [add_block]; exact hn113_0) | (show (Addr.add _ _).block ≠ _; rw [add_block]; exact hn113_0) | exact hn113_0) (.int .i64 ((rd_T37 l0_2 x8_1).f0))).trans hx113_0; replace hx113_1 := (cell_far (p := ⟨gb110, 0, none⟩) (by first | (rw [add_block]; exact hn113_0) | (show (Addr.add _ _).block ≠ _; rw [add_block]; exact hn113_0) | exact hn113_0) (.int .i64 ((rd_T37 l0_2 x8_1).f0))).trans hx113_1; replace hx113_0 := (cell_far (p := ⟨gb110, 1, none⟩) (by first | (rw [add_block]; exact hn113_1) | (show (Addr.add _ _).block ≠ _; rw [add_block]; exact hn113_1) | exact hn113_1) (.int .i64 ((rd_T37 l0_2 x8_1).f1))).trans hx113_0; replace hx113_1 := (cell_far (p := ⟨gb110, 1, none⟩) (by first | (rw [add_block]; exact hn113_1) | (show (Addr.add _ _).block ≠ _; rw [add_block]; exact hn113_1) | exact hn113_1) (.int .i64 ((rd_T37 l0_2 x8_1).f1))).trans hx113_1; (try have hy113_0 := fun (n_ : Nat) => (show ((((w16.drewN n_).setCell ⟨gb110, 0, none⟩ (.int .i64 ((rd_T37 l0_2 x8_1).f0))).setCell ⟨gb110, 1, none⟩ (.int .i64 ((rd_T37 l0_2 x8_1).f1)))).cell? _ = some _ from hx113_0)); (try have hy113_1 := fun (n_ : Nat) => (show ((((w16.drewN n_).setCell ⟨gb110, 0, none⟩ (.int .i64 ((rd_T37 l0_2 x8_1).f0))).setCell ⟨gb110, 1, none⟩ (.int .i64 ((rd_T37 l0_2 x8_1).f1)))).cell? _ = some _ from hx113_1)); clear hn113_0; clear hn113_1; replace p113 := eq_true p113; replace q113 := eq_true q113))
                     repeat (go_quiet (first | ((with_reducible refine gate_dst (N := 4) rfl ?_); (try (refine gate_guard (by rfl) ?_; dsimp only)); refine bx 4 #[.int .i64 0, .int .i64 0] 37 ?_; intro gb110 hg w16 hbox hb; have BK110 := ak hbox; have GW110 := gs hg (bl1 GE105); have GE110 := gs hg (bl1 GE105); replace HB := ak (below_step (bl1 GE105) hb); have NB105_110 := nl hg BK105; have NB110_105 := ng hg BK105; replace BK105 := bb BK105 hb; clear hb hbox hg; have hnb17 := NB110_105.out; have hnc17 := NB105_110.out; obtain ⟨hcz18_0, hcz18_1, hfz18_0, hfz18_1⟩ := cz2 BK110) | (go_at_call 122; (with_reducible refine (impl_isTick.calls ((rd_T37 l0_2 x8_1).f0) true _ A7.out).mono ?_); rintro e w' ⟨rfl, ⟨nd, rfl⟩⟩; (try exact dd)) | (go_at_call 150; (with_reducible refine (impl_isSize.calls ((rd_T37 l0_2 x8_1).f1) true _ A9.out).mono ?_); rintro e w' ⟨rfl, ⟨nd, rfl⟩⟩; (try exact dd); obtain ⟨hcz19_0, hcz19_1, hcz19_2, hfz19_0, hfz19_1, hfz19_2⟩ := cz3 BK105; have p113 : 0 ≤ ((ji12) : Int) := of_decide_eq_true am; have q113 : (ji12) < (l0_2.length : Int) := of_decide_eq_true am; obtain ⟨ad113, e113, hx113_0, hx113_1⟩ := at_T37 HR0_2.out (ji12) p113 q113; obtain rfl : ad109 = ad113 := (by injection e113); have hn113_0 : ad109.block ≠ gb110 := Nat.ne_of_lt (Nat.lt_of_lt_of_le (by have := World.block_lt_of_cell? _ _ hx113_0; first | rwa [add_block] at this | exact this) GW110.out); have hn113_1 : ad109.block ≠ gb110 := Nat.ne_of_lt (Nat.lt_of_lt_of_le (by have := World.block_lt_of_cell? _ _ hx113_0; first | rwa [add_block] at this | exact this) GW110.out); replace hx113_0 := cw hx113_0; replace hx113_1 := cw hx113_1; replace hx113_0 := (cell_far (p := ⟨gb110, 0, none⟩) (by first | (rw [add_block]; exact hn113_0) | (show (Addr.add _ _).block ≠ _; rw [add_block]; exact hn113_0) | exact hn113_0) (.int .i64 ((rd_T37 l0_2 x8_1).f0))).trans hx113_0; replace hx113_1 := (cell_far (p := ⟨gb110, 0, none⟩) (by first | (rw [add_block]; exact hn113_0) | (show (Addr.add _ _).block ≠ _; rw [add_block]; exact hn113_0) | exact hn113_0) (.int .i64 ((rd_T37 l0_2 x8_1).f0))).trans hx113_1; replace hx113_0 := (cell_far (p := ⟨gb110, 1, none⟩) (by first | (rw [add_block]; exact hn113_1) | (show (Addr.add _ _).block ≠ _; rw [add_block]; exact hn113_1) | exact hn113_1) (.int .i64 ((rd_T37 l0_2 x8_1).f1))).trans hx113_0; replace hx113_1 := (cell_far (p := ⟨gb110, 1, none⟩) (by first | (rw [add_block]; exact hn113_1) | (show (Addr.add _ _).block ≠ _; rw [add_block]; exact hn113_1) | exact hn113_1) (.int .i64 ((rd_T37 l0_2 x8_1).f1))).trans hx113_1; (try have hy113_0 := fun (n_ : Nat) => (show ((((w16.drewN n_).setCell ⟨gb110, 0, none⟩ (.int .i64 ((rd_T37 l0_2 x8_1).f0))).setCell ⟨gb110, 1, none⟩ (.int .i64 ((rd_T37 l0_2 x8_1).f1)))).cell? _ = some _ from hx113_0)); (try have hy113_1 := fun (n_ : Nat) => (show ((((w16.drewN n_).setCell ⟨gb110, 0, none⟩ (.int .i64 ((rd_T37 l0_2 x8_1).f0))).setCell ⟨gb110, 1, none⟩ (.int .i64 ((rd_T37 l0_2 x8_1).f1)))).cell? _ = some _ from hx113_1)); clear hn113_0; clear hn113_1; replace p113 := eq_true p113; replace q113 := eq_true q113)); try go_wp2_with (first | ((with_reducible refine gate_dst (N := 4) rfl ?_); (try (refine gate_guard (by rfl) ?_; dsimp only)); refine bx 4 #[.int .i64 0, .int .i64 0] 37 ?_; intro gb110 hg w16 hbox hb; have BK110 := ak hbox; have GW110 := gs hg (bl1 GE105); have GE110 := gs hg (bl1 GE105); replace HB := ak (below_step (bl1 GE105) hb); have NB105_110 := nl hg BK105; have NB110_105 := ng hg BK105; replace BK105 := bb BK105 hb; clear hb hbox hg; have hnb17 := NB110_105.out; have hnc17 := NB105_110.out; obtain ⟨hcz18_0, hcz18_1, hfz18_0, hfz18_1⟩ := cz2 BK110) | (go_at_call 122; (with_reducible refine (impl_isTick.calls ((rd_T37 l0_2 x8_1).f0) true _ A7.out).mono ?_); rintro e w' ⟨rfl, ⟨nd, rfl⟩⟩; (try exact dd)) | (go_at_call 150; (with_reducible refine (impl_isSize.calls ((rd_T37 l0_2 x8_1).f1) true _ A9.out).mono ?_); rintro e w' ⟨rfl, ⟨nd, rfl⟩⟩; (try exact dd); obtain ⟨hcz19_0, hcz19_1, hcz19_2, hfz19_0, hfz19_1, hfz19_2⟩ := cz3 BK105; have p113 : 0 ≤ ((ji12) : Int) := of_decide_eq_true am; have q113 : (ji12) < (l0_2.length : Int) := of_decide_eq_true am; obtain ⟨ad113, e113, hx113_0, hx113_1⟩ := at_T37 HR0_2.out (ji12) p113 q113; obtain rfl : ad109 = ad113 := (by injection e113); have hn113_0 : ad109.block ≠ gb110 := Nat.ne_of_lt (Nat.lt_of_lt_of_le (by have := World.block_lt_of_cell? _ _ hx113_0; first | rwa [add_block] at this | exact this) GW110.out); have hn113_1 : ad109.block ≠ gb110 := Nat.ne_of_lt (Nat.lt_of_lt_of_le (by have := World.block_lt_of_cell? _ _ hx113_0; first | rwa [add_block] at this | exact this) GW110.out); replace hx113_0 := cw hx113_0; replace hx113_1 := cw hx113_1; replace hx113_0 := (cell_far (p := ⟨gb110, 0, none⟩) (by first | (rw [add_block]; exact hn113_0) | (show (Addr.add _ _).block ≠ _; rw [add_block]; exact hn113_0) | exact hn113_0) (.int .i64 ((rd_T37 l0_2 x8_1).f0))).trans hx113_0; replace hx113_1 := (cell_far (p := ⟨gb110, 0, none⟩) (by first | (rw [add_block]; exact hn113_0) | (show (Addr.add _ _).block ≠ _; rw [add_block]; exact hn113_0) | exact hn113_0) (.int .i64 ((rd_T37 l0_2 x8_1).f0))).trans hx113_1; replace hx113_0 := (cell_far (p := ⟨gb110, 1, none⟩) (by first | (rw [add_block]; exact hn113_1) | (show (Addr.add _ _).block ≠ _; rw [add_block]; exact hn113_1) | exact hn113_1) (.int .i64 ((rd_T37 l0_2 x8_1).f1))).trans hx113_0; replace hx113_1 := (cell_far (p := ⟨gb110, 1, none⟩) (by first | (rw [add_block]; exact hn113_1) | (show (Addr.add _ _).block ≠ _; rw [add_block]; exact hn113_1) | exact hn113_1) (.int .i64 ((rd_T37 l0_2 x8_1).f1))).trans hx113_1; (try have hy113_0 := fun (n_ : Nat) => (show ((((w16.drewN n_).setCell ⟨gb110, 0, none⟩ (.int .i64 ((rd_T37 l0_2 x8_1).f0))).setCell ⟨gb110, 1, none⟩ (.int .i64 ((rd_T37 l0_2 x8_1).f1)))).cell? _ = some _ from hx113_0)); (try have hy113_1 := fun (n_ : Nat) => (show ((((w16.drewN n_).setCell ⟨gb110, 0, none⟩ (.int .i64 ((rd_T37 l0_2 x8_1).f0))).setCell ⟨gb110, 1, none⟩ (.int .i64 ((rd_T37 l0_2 x8_1).f1)))).cell? _ = some _ from hx113_1)); clear hn113_0; clear hn113_1; replace p113 := eq_true p113; replace q113 := eq_true q113)))
                     go_ret
                     exact ⟨by first | rfl | (simp [errW_none, errW_some] <;> rfl) | (simp only [← hji12]; first | rfl | (simp [errW_none, errW_some] <;> rfl)) | (simp [*, errW_none, errW_some] <;> rfl), bl2 GE105 GE110⟩
                   · rw [if_neg c15] at H
                     have c15b0 : decide (((rd_T37 l0_2 x8_1).f0) ≤ ((rd_T37 l0_2 (ji12)).f0)) = false := decide_eq_false c15
                     clear c15
                     have H' := Aside0.mk H
                     clear H
                     have p109 : 0 ≤ (x8_1 : Int) := of_decide_eq_true am
                     have q109 : x8_1 < (l0_2.length : Int) := of_decide_eq_true am
                     obtain ⟨ad109, e109, hx109_0, hx109_1⟩ := at_T37 HR0_2.out x8_1 p109 q109
                     cases e109
                     replace hx109_0 := cw hx109_0
                     replace hx109_1 := cw hx109_1
                     replace p109 := eq_true p109
                     replace q109 := eq_true q109
                     go_wp2_with (first | ((with_reducible refine gate_dst (N := 4) rfl ?_); (try (refine gate_guard (by rfl) ?_; dsimp only)); refine bx 4 #[.int .i64 0, .int .i64 0] 37 ?_; intro gb110 hg w20 hbox hb; have BK110 := ak hbox; have GW110 := gs hg (bl1 GE105); have GE110 := gs hg (bl1 GE105); replace HB := ak (below_step (bl1 GE105) hb); have NB105_110 := nl hg BK105; have NB110_105 := ng hg BK105; replace BK105 := bb BK105 hb; clear hb hbox hg; have hnb21 := NB110_105.out; have hnc21 := NB105_110.out; obtain ⟨hcz22_0, hcz22_1, hfz22_0, hfz22_1⟩ := cz2 BK110) | (go_at_call 122; (with_reducible refine (impl_isTick.calls ((rd_T37 l0_2 x8_1).f0) true _ A7.out).mono ?_); rintro e w' ⟨rfl, ⟨nd, rfl⟩⟩; (try exact dd)) | (go_at_call 150; (with_reducible refine (impl_isSize.calls ((rd_T37 l0_2 x8_1).f1) true _ A9.out).mono ?_); rintro e w' ⟨rfl, ⟨nd, rfl⟩⟩; (try exact dd); obtain ⟨hcz23_0, hcz23_1, hcz23_2, hfz23_0, hfz23_1, hfz23_2⟩ := cz3 BK105; have p113 : 0 ≤ ((ji12) : Int) := of_decide_eq_true am; have q113 : (ji12) < (l0_2.length : Int) := of_decide_eq_true am; obtain ⟨ad113, e113, hx113_0, hx113_1⟩ := at_T37 HR0_2.out (ji12) p113 q113; obtain rfl : ad109 = ad113 := (by injection e113); have hn113_0 : ad109.block ≠ gb110 := Nat.ne_of_lt (Nat.lt_of_lt_of_le (by have := World.block_lt_of_cell? _ _ hx113_0; first | rwa [add_block] at this | exact this) GW110.out); have hn113_1 : ad109.block ≠ gb110 := Nat.ne_of_lt (Nat.lt_of_lt_of_le (by have := World.block_lt_of_cell? _ _ hx113_0; first | rwa [add_block] at this | exact this) GW110.out); replace hx113_0 := cw hx113_0; replace hx113_1 := cw hx113_1; replace hx113_0 := (cell_far (p := ⟨gb110, 0, none⟩) (by first | (rw [add_block]; exact hn113_0) | (show (Addr.add _ _).block ≠ _; rw [add_block]; exact hn113_0) | exact hn113_0) (.int .i64 ((rd_T37 l0_2 x8_1).f0))).trans hx113_0; replace hx113_1 := (cell_far (p := ⟨gb110, 0, none⟩) (by first | (rw [add_block]; exact hn113_0) | (show (Addr.add _ _).block ≠ _; rw [add_block]; exact hn113_0) | exact hn113_0) (.int .i64 ((rd_T37 l0_2 x8_1).f0))).trans hx113_1; replace hx113_0 := (cell_far (p := ⟨gb110, 1, none⟩) (by first | (rw [add_block]; exact hn113_1) | (show (Addr.add _ _).block ≠ _; rw [add_block]; exact hn113_1) | exact hn113_1) (.int .i64 ((rd_T37 l0_2 x8_1).f1))).trans hx113_0; replace hx113_1 := (cell_far (p := ⟨gb110, 1, none⟩) (by first | (rw [add_block]; exact hn113_1) | (show (Addr.add _ _).block ≠ _; rw [add_block]; exact hn113_1) | exact hn113_1) (.int .i64 ((rd_T37 l0_2 x8_1).f1))).trans hx113_1; (try have hy113_0 := fun (n_ : Nat) => (show ((((w20.drewN n_).setCell ⟨gb110, 0, none⟩ (.int .i64 ((rd_T37 l0_2 x8_1).f0))).setCell ⟨gb110, 1, none⟩ (.int .i64 ((rd_T37 l0_2 x8_1).f1)))).cell? _ = some _ from hx113_0)); (try have hy113_1 := fun (n_ : Nat) => (show ((((w20.drewN n_).setCell ⟨gb110, 0, none⟩ (.int .i64 ((rd_T37 l0_2 x8_1).f0))).setCell ⟨gb110, 1, none⟩ (.int .i64 ((rd_T37 l0_2 x8_1).f1)))).cell? _ = some _ from hx113_1)); clear hn113_0; clear hn113_1; replace p113 := eq_true p113; replace q113 := eq_true q113))
                     repeat (go_quiet (first | ((with_reducible refine gate_dst (N := 4) rfl ?_); (try (refine gate_guard (by rfl) ?_; dsimp only)); refine bx 4 #[.int .i64 0, .int .i64 0] 37 ?_; intro gb110 hg w20 hbox hb; have BK110 := ak hbox; have GW110 := gs hg (bl1 GE105); have GE110 := gs hg (bl1 GE105); replace HB := ak (below_step (bl1 GE105) hb); have NB105_110 := nl hg BK105; have NB110_105 := ng hg BK105; replace BK105 := bb BK105 hb; clear hb hbox hg; have hnb21 := NB110_105.out; have hnc21 := NB105_110.out; obtain ⟨hcz22_0, hcz22_1, hfz22_0, hfz22_1⟩ := cz2 BK110) | (go_at_call 122; (with_reducible refine (impl_isTick.calls ((rd_T37 l0_2 x8_1).f0) true _ A7.out).mono ?_); rintro e w' ⟨rfl, ⟨nd, rfl⟩⟩; (try exact dd)) | (go_at_call 150; (with_reducible refine (impl_isSize.calls ((rd_T37 l0_2 x8_1).f1) true _ A9.out).mono ?_); rintro e w' ⟨rfl, ⟨nd, rfl⟩⟩; (try exact dd); obtain ⟨hcz23_0, hcz23_1, hcz23_2, hfz23_0, hfz23_1, hfz23_2⟩ := cz3 BK105; have p113 : 0 ≤ ((ji12) : Int) := of_decide_eq_true am; have q113 : (ji12) < (l0_2.length : Int) := of_decide_eq_true am; obtain ⟨ad113, e113, hx113_0, hx113_1⟩ := at_T37 HR0_2.out (ji12) p113 q113; obtain rfl : ad109 = ad113 := (by injection e113); have hn113_0 : ad109.block ≠ gb110 := Nat.ne_of_lt (Nat.lt_of_lt_of_le (by have := World.block_lt_of_cell? _ _ hx113_0; first | rwa [add_block] at this | exact this) GW110.out); have hn113_1 : ad109.block ≠ gb110 := Nat.ne_of_lt (Nat.lt_of_lt_of_le (by have := World.block_lt_of_cell? _ _ hx113_0; first | rwa [add_block] at this | exact this) GW110.out); replace hx113_0 := cw hx113_0; replace hx113_1 := cw hx113_1; replace hx113_0 := (cell_far (p := ⟨gb110, 0, none⟩) (by first | (rw [add_block]; exact hn113_0) | (show (Addr.add _ _).block ≠ _; rw [add_block]; exact hn113_0) | exact hn113_0) (.int .i64 ((rd_T37 l0_2 x8_1).f0))).trans hx113_0; replace hx113_1 := (cell_far (p := ⟨gb110, 0, none⟩) (by first | (rw [add_block]; exact hn113_0) | (show (Addr.add _ _).block ≠ _; rw [add_block]; exact hn113_0) | exact hn113_0) (.int .i64 ((rd_T37 l0_2 x8_1).f0))).trans hx113_1; replace hx113_0 := (cell_far (p := ⟨gb110, 1, none⟩) (by first | (rw [add_block]; exact hn113_1) | (show (Addr.add _ _).block ≠ _; rw [add_block]; exact hn113_1) | exact hn113_1) (.int .i64 ((rd_T37 l0_2 x8_1).f1))).trans hx113_0; replace hx113_1 := (cell_far (p := ⟨gb110, 1, none⟩) (by first | (rw [add_block]; exact hn113_1) | (show (Addr.add _ _).block ≠ _; rw [add_block]; exact hn113_1) | exact hn113_1) (.int .i64 ((rd_T37 l0_2 x8_1).f1))).trans hx113_1; (try have hy113_0 := fun (n_ : Nat) => (show ((((w20.drewN n_).setCell ⟨gb110, 0, none⟩ (.int .i64 ((rd_T37 l0_2 x8_1).f0))).setCell ⟨gb110, 1, none⟩ (.int .i64 ((rd_T37 l0_2 x8_1).f1)))).cell? _ = some _ from hx113_0)); (try have hy113_1 := fun (n_ : Nat) => (show ((((w20.drewN n_).setCell ⟨gb110, 0, none⟩ (.int .i64 ((rd_T37 l0_2 x8_1).f0))).setCell ⟨gb110, 1, none⟩ (.int .i64 ((rd_T37 l0_2 x8_1).f1)))).cell? _ = some _ from hx113_1)); clear hn113_0; clear hn113_1; replace p113 := eq_true p113; replace q113 := eq_true q113)); try go_wp2_with (first | ((with_reducible refine gate_dst (N := 4) rfl ?_); (try (refine gate_guard (by rfl) ?_; dsimp only)); refine bx 4 #[.int .i64 0, .int .i64 0] 37 ?_; intro gb110 hg w20 hbox hb; have BK110 := ak hbox; have GW110 := gs hg (bl1 GE105); have GE110 := gs hg (bl1 GE105); replace HB := ak (below_step (bl1 GE105) hb); have NB105_110 := nl hg BK105; have NB110_105 := ng hg BK105; replace BK105 := bb BK105 hb; clear hb hbox hg; have hnb21 := NB110_105.out; have hnc21 := NB105_110.out; obtain ⟨hcz22_0, hcz22_1, hfz22_0, hfz22_1⟩ := cz2 BK110) | (go_at_call 122; (with_reducible refine (impl_isTick.calls ((rd_T37 l0_2 x8_1).f0) true _ A7.out).mono ?_); rintro e w' ⟨rfl, ⟨nd, rfl⟩⟩; (try exact dd)) | (go_at_call 150; (with_reducible refine (impl_isSize.calls ((rd_T37 l0_2 x8_1).f1) true _ A9.out).mono ?_); rintro e w' ⟨rfl, ⟨nd, rfl⟩⟩; (try exact dd); obtain ⟨hcz23_0, hcz23_1, hcz23_2, hfz23_0, hfz23_1, hfz23_2⟩ := cz3 BK105; have p113 : 0 ≤ ((ji12) : Int) := of_decide_eq_true am; have q113 : (ji12) < (l0_2.length : Int) := of_decide_eq_true am; obtain ⟨ad113, e113, hx113_0, hx113_1⟩ := at_T37 HR0_2.out (ji12) p113 q113; obtain rfl : ad109 = ad113 := (by injection e113); have hn113_0 : ad109.block ≠ gb110 := Nat.ne_of_lt (Nat.lt_of_lt_of_le (by have := World.block_lt_of_cell? _ _ hx113_0; first | rwa [add_block] at this | exact this) GW110.out); have hn113_1 : ad109.block ≠ gb110 := Nat.ne_of_lt (Nat.lt_of_lt_of_le (by have := World.block_lt_of_cell? _ _ hx113_0; first | rwa [add_block] at this | exact this) GW110.out); replace hx113_0 := cw hx113_0; replace hx113_1 := cw hx113_1; replace hx113_0 := (cell_far (p := ⟨gb110, 0, none⟩) (by first | (rw [add_block]; exact hn113_0) | (show (Addr.add _ _).block ≠ _; rw [add_block]; exact hn113_0) | exact hn113_0) (.int .i64 ((rd_T37 l0_2 x8_1).f0))).trans hx113_0; replace hx113_1 := (cell_far (p := ⟨gb110, 0, none⟩) (by first | (rw [add_block]; exact hn113_0) | (show (Addr.add _ _).block ≠ _; rw [add_block]; exact hn113_0) | exact hn113_0) (.int .i64 ((rd_T37 l0_2 x8_1).f0))).trans hx113_1; replace hx113_0 := (cell_far (p := ⟨gb110, 1, none⟩) (by first | (rw [add_block]; exact hn113_1) | (show (Addr.add _ _).block ≠ _; rw [add_block]; exact hn113_1) | exact hn113_1) (.int .i64 ((rd_T37 l0_2 x8_1).f1))).trans hx113_0; replace hx113_1 := (cell_far (p := ⟨gb110, 1, none⟩) (by first | (rw [add_block]; exact hn113_1) | (show (Addr.add _ _).block ≠ _; rw [add_block]; exact hn113_1) | exact hn113_1) (.int .i64 ((rd_T37 l0_2 x8_1).f1))).trans hx113_1; (try have hy113_0 := fun (n_ : Nat) => (show ((((w20.drewN n_).setCell ⟨gb110, 0, none⟩ (.int .i64 ((rd_T37 l0_2 x8_1).f0))).setCell ⟨gb110, 1, none⟩ (.int .i64 ((rd_T37 l0_2 x8_1).f1)))).cell? _ = some _ from hx113_0)); (try have hy113_1 := fun (n_ : Nat) => (show ((((w20.drewN n_).setCell ⟨gb110, 0, none⟩ (.int .i64 ((rd_T37 l0_2 x8_1).f0))).setCell ⟨gb110, 1, none⟩ (.int .i64 ((rd_T37 l0_2 x8_1).f1)))).cell? _ = some _ from hx113_1)); clear hn113_0; clear hn113_1; replace p113 := eq_true p113; replace q113 := eq_true q113)))
                     go_roundg k1
                     case measure => have := HK1.out; omega
                     case rel => exact ⟨(wrap64 (x8_1 + 1)), es, H', ⟨kp⟩, ⟨by (with_reducible repeat (first | refine blk_drewN ?_ _ | refine blk_drew ?_ | refine blk_alloc ?_ _)); refine blk_far ?_ NB105_110.out _; (with_reducible repeat (first | refine blk_drewN ?_ _ | refine blk_drew ?_ | refine blk_alloc ?_ _)); refine blk_far ?_ NB105_110.out _; (with_reducible repeat (first | refine blk_drewN ?_ _ | refine blk_drew ?_ | refine blk_alloc ?_ _)); exact BK105.out⟩, ⟨bl2 GE105 GE110⟩⟩
                 · rw [if_neg c14] at H
                   exact absurd H (by simp)
               · rw [if_neg c13] at H
                 exact absurd H (by simp)
             · rw [if_neg c11] at H
               have c11b0 : decide (0 < x8_1) = false := decide_eq_false c11
               clear c11
               have H' := Aside0.mk H
               clear H
               have p109 : 0 ≤ (x8_1 : Int) := of_decide_eq_true am
               have q109 : x8_1 < (l0_2.length : Int) := of_decide_eq_true am
               obtain ⟨ad109, e109, hx109_0, hx109_1⟩ := at_T37 HR0_2.out x8_1 p109 q109
               cases e109
               replace hx109_0 := cw hx109_0
               replace hx109_1 := cw hx109_1
               replace p109 := eq_true p109
               replace q109 := eq_true q109
               go_wp2_with (first | ((with_reducible refine gate_dst (N := 4) rfl ?_); (try (refine gate_guard (by rfl) ?_; dsimp only)); refine bx 4 #[.int .i64 0, .int .i64 0] 37 ?_; intro gb110 hg w24 hbox hb; have BK110 := ak hbox; have GW110 := gs hg (bl1 GE105); have GE110 := gs hg (bl1 GE105); replace HB := ak (below_step (bl1 GE105) hb); have NB105_110 := nl hg BK105; have NB110_105 := ng hg BK105; replace BK105 := bb BK105 hb; clear hb hbox hg; have hnb25 := NB110_105.out; have hnc25 := NB105_110.out; obtain ⟨hcz26_0, hcz26_1, hfz26_0, hfz26_1⟩ := cz2 BK110) | (go_at_call 122; (with_reducible refine (impl_isTick.calls ((rd_T37 l0_2 x8_1).f0) true _ A7.out).mono ?_); rintro e w' ⟨rfl, ⟨nd, rfl⟩⟩; (try exact dd)) | (go_at_call 150; (with_reducible refine (impl_isSize.calls ((rd_T37 l0_2 x8_1).f1) true _ A9.out).mono ?_); rintro e w' ⟨rfl, ⟨nd, rfl⟩⟩; (try exact dd)))
               repeat (go_quiet (first | ((with_reducible refine gate_dst (N := 4) rfl ?_); (try (refine gate_guard (by rfl) ?_; dsimp only)); refine bx 4 #[.int .i64 0, .int .i64 0] 37 ?_; intro gb110 hg w24 hbox hb; have BK110 := ak hbox; have GW110 := gs hg (bl1 GE105); have GE110 := gs hg (bl1 GE105); replace HB := ak (below_step (bl1 GE105) hb); have NB105_110 := nl hg BK105; have NB110_105 := ng hg BK105; replace BK105 := bb BK105 hb; clear hb hbox hg; have hnb25 := NB110_105.out; have hnc25 := NB105_110.out; obtain ⟨hcz26_0, hcz26_1, hfz26_0, hfz26_1⟩ := cz2 BK110) | (go_at_call 122; (with_reducible refine (impl_isTick.calls ((rd_T37 l0_2 x8_1).f0) true _ A7.out).mono ?_); rintro e w' ⟨rfl, ⟨nd, rfl⟩⟩; (try exact dd)) | (go_at_call 150; (with_reducible refine (impl_isSize.calls ((rd_T37 l0_2 x8_1).f1) true _ A9.out).mono ?_); rintro e w' ⟨rfl, ⟨nd, rfl⟩⟩; (try exact dd))); try go_wp2_with (first | ((with_reducible refine gate_dst (N := 4) rfl ?_); (try (refine gate_guard (by rfl) ?_; dsimp only)); refine bx 4 #[.int .i64 0, .int .i64 0] 37 ?_; intro gb110 hg w24 hbox hb; have BK110 := ak hbox; have GW110 := gs hg (bl1 GE105); have GE110 := gs hg (bl1 GE105); replace HB := ak (below_step (bl1 GE105) hb); have NB105_110 := nl hg BK105; have NB110_105 := ng hg BK105; replace BK105 := bb BK105 hb; clear hb hbox hg; have hnb25 := NB110_105.out; have hnc25 := NB105_110.out; obtain ⟨hcz26_0, hcz26_1, hfz26_0, hfz26_1⟩ := cz2 BK110) | (go_at_call 122; (with_reducible refine (impl_isTick.calls ((rd_T37 l0_2 x8_1).f0) true _ A7.out).mono ?_); rintro e w' ⟨rfl, ⟨nd, rfl⟩⟩; (try exact dd)) | (go_at_call 150; (with_reducible refine (impl_isSize.calls ((rd_T37 l0_2 x8_1).f1) true _ A9.out).mono ?_); rintro e w' ⟨rfl, ⟨nd, rfl⟩⟩; (try exact dd))))
               go_roundg k1
               case measure => have := HK1.out; omega
               case rel => exact ⟨(wrap64 (x8_1 + 1)), es, H', ⟨kp⟩, ⟨by (with_reducible repeat (first | refine blk_drewN ?_ _ | refine blk_drew ?_ | refine blk_alloc ?_ _)); refine blk_far ?_ NB105_110.out _; (with_reducible repeat (first | refine blk_drewN ?_ _ | refine blk_drew ?_ | refine blk_alloc ?_ _)); refine blk_far ?_ NB105_110.out _; (with_reducible repeat (first | refine blk_drewN ?_ _ | refine blk_drew ?_ | refine blk_alloc ?_ _)); exact BK105.out⟩, ⟨bl2 GE105 GE110⟩⟩
           · replace c10 := Bool.eq_false_iff.mpr c10
             subst c10
             replace H := iF H
             obtain rfl := Option.some.inj H
             have p109 : 0 ≤ (x8_1 : Int) := of_decide_eq_true am
             have q109 : x8_1 < (l0_2.length : Int) := of_decide_eq_true am
             obtain ⟨ad109, e109, hx109_0, hx109_1⟩ := at_T37 HR0_2.out x8_1 p109 q109
             cases e109
             replace hx109_0 := cw hx109_0
             replace hx109_1 := cw hx109_1
             replace p109 := eq_true p109
             replace q109 := eq_true q109
             go_wp2_with (first | ((with_reducible refine gate_dst (N := 4) rfl ?_); (try (refine gate_guard (by rfl) ?_; dsimp only)); refine bx 4 #[.int .i64 0, .int .i64 0] 37 ?_; intro gb110 hg w27 hbox hb; have BK110 := ak hbox; have GW110 := gs hg (bl1 GE105); have GE110 := gs hg (bl1 GE105); replace HB := ak (below_step (bl1 GE105) hb); have NB105_110 := nl hg BK105; have NB110_105 := ng hg BK105; replace BK105 := bb BK105 hb; clear hb hbox hg; have hnb28 := NB110_105.out; have hnc28 := NB105_110.out; obtain ⟨hcz29_0, hcz29_1, hfz29_0, hfz29_1⟩ := cz2 BK110) | (go_at_call 122; (with_reducible refine (impl_isTick.calls ((rd_T37 l0_2 x8_1).f0) true _ A7.out).mono ?_); rintro e w' ⟨rfl, ⟨nd, rfl⟩⟩; (try exact dd)) | (go_at_call 150; (with_reducible refine (impl_isSize.calls ((rd_T37 l0_2 x8_1).f1) false _ A9.out).mono ?_); rintro e w' ⟨rfl, ⟨nd, rfl⟩⟩; (try exact dd)))
             repeat (go_quiet (first | ((with_reducible refine gate_dst (N := 4) rfl ?_); (try (refine gate_guard (by rfl) ?_; dsimp only)); refine bx 4 #[.int .i64 0, .int .i64 0] 37 ?_; intro gb110 hg w27 hbox hb; have BK110 := ak hbox; have GW110 := gs hg (bl1 GE105); have GE110 := gs hg (bl1 GE105); replace HB := ak (below_step (bl1 GE105) hb); have NB105_110 := nl hg BK105; have NB110_105 := ng hg BK105; replace BK105 := bb BK105 hb; clear hb hbox hg; have hnb28 := NB110_105.out; have hnc28 := NB105_110.out; obtain ⟨hcz29_0, hcz29_1, hfz29_0, hfz29_1⟩ := cz2 BK110) | (go_at_call 122; (with_reducible refine (impl_isTick.calls ((rd_T37 l0_2 x8_1).f0) true _ A7.out).mono ?_); rintro e w' ⟨rfl, ⟨nd, rfl⟩⟩; (try exact dd)) | (go_at_call 150; (with_reducible refine (impl_isSize.calls ((rd_T37 l0_2 x8_1).f1) false _ A9.out).mono ?_); rintro e w' ⟨rfl, ⟨nd, rfl⟩⟩; (try exact dd))); try go_wp2_with (first | ((with_reducible refine gate_dst (N := 4) rfl ?_); (try (refine gate_guard (by rfl) ?_; dsimp only)); refine bx 4 #[.int .i64 0, .int .i64 0] 37 ?_; intro gb110 hg w27 hbox hb; have BK110 := ak hbox; have GW110 := gs hg (bl1 GE105); have GE110 := gs hg (bl1 GE105); replace HB := ak (below_step (bl1 GE105) hb); have NB105_110 := nl hg BK105; have NB110_105 := ng hg BK105; replace BK105 := bb BK105 hb; clear hb hbox hg; have hnb28 := NB110_105.out; have hnc28 := NB105_110.out; obtain ⟨hcz29_0, hcz29_1, hfz29_0, hfz29_1⟩ := cz2 BK110) | (go_at_call 122; (with_reducible refine (impl_isTick.calls ((rd_T37 l0_2 x8_1).f0) true _ A7.out).mono ?_); rintro e w' ⟨rfl, ⟨nd, rfl⟩⟩; (try exact dd)) | (go_at_call 150; (with_reducible refine (impl_isSize.calls ((rd_T37 l0_2 x8_1).f1) false _ A9.out).mono ?_); rintro e w' ⟨rfl, ⟨nd, rfl⟩⟩; (try exact dd))))
             go_ret
             exact ⟨ew, bl2 GE105 GE110⟩
         · replace c8 := Bool.eq_false_iff.mpr c8
           subst c8
           replace H := iF H
           obtain rfl := Option.some.inj H
           have p109 : 0 ≤ (x8_1 : Int) := of_decide_eq_true am
           have q109 : x8_1 < (l0_2.length : Int) := of_decide_eq_true am
           obtain ⟨ad109, e109, hx109_0, hx109_1⟩ := at_T37 HR0_2.out x8_1 p109 q109
           cases e109
           replace hx109_0 := cw hx109_0
           replace hx109_1 := cw hx109_1
           replace p109 := eq_true p109
           replace q109 := eq_true q109
           go_wp2_with (first | ((with_reducible refine gate_dst (N := 4) rfl ?_); (try (refine gate_guard (by rfl) ?_; dsimp only)); refine bx 4 #[.int .i64 0, .int .i64 0] 37 ?_; intro gb110 hg w30 hbox hb; have BK110 := ak hbox; have GW110 := gs hg (bl1 GE105); have GE110 := gs hg (bl1 GE105); replace HB := ak (below_step (bl1 GE105) hb); have NB105_110 := nl hg BK105; have NB110_105 := ng hg BK105; replace BK105 := bb BK105 hb; clear hb hbox hg; have hnb31 := NB110_105.out; have hnc31 := NB105_110.out; obtain ⟨hcz32_0, hcz32_1, hfz32_0, hfz32_1⟩ := cz2 BK110) | (go_at_call 122; (with_reducible refine (impl_isTick.calls ((rd_T37 l0_2 x8_1).f0) false _ A7.out).mono ?_); rintro e w' ⟨rfl, ⟨nd, rfl⟩⟩; (try exact dd)))
           repeat (go_quiet (first | ((with_reducible refine gate_dst (N := 4) rfl ?_); (try (refine gate_guard (by rfl) ?_; dsimp only)); refine bx 4 #[.int .i64 0, .int .i64 0] 37 ?_; intro gb110 hg w30 hbox hb; have BK110 := ak hbox; have GW110 := gs hg (bl1 GE105); have GE110 := gs hg (bl1 GE105); replace HB := ak (below_step (bl1 GE105) hb); have NB105_110 := nl hg BK105; have NB110_105 := ng hg BK105; replace BK105 := bb BK105 hb; clear hb hbox hg; have hnb31 := NB110_105.out; have hnc31 := NB105_110.out; obtain ⟨hcz32_0, hcz32_1, hfz32_0, hfz32_1⟩ := cz2 BK110) | (go_at_call 122; (with_reducible refine (impl_isTick.calls ((rd_T37 l0_2 x8_1).f0) false _ A7.out).mono ?_); rintro e w' ⟨rfl, ⟨nd, rfl⟩⟩; (try exact dd))); try go_wp2_with (first | ((with_reducible refine gate_dst (N := 4) rfl ?_); (try (refine gate_guard (by rfl) ?_; dsimp only)); refine bx 4 #[.int .i64 0, .int .i64 0] 37 ?_; intro gb110 hg w30 hbox hb; have BK110 := ak hbox; have GW110 := gs hg (bl1 GE105); have GE110 := gs hg (bl1 GE105); replace HB := ak (below_step (bl1 GE105) hb); have NB105_110 := nl hg BK105; have NB110_105 := ng hg BK105; replace BK105 := bb BK105 hb; clear hb hbox hg; have hnb31 := NB110_105.out; have hnc31 := NB105_110.out; obtain ⟨hcz32_0, hcz32_1, hfz32_0, hfz32_1⟩ := cz2 BK110) | (go_at_call 122; (with_reducible refine (impl_isTick.calls ((rd_T37 l0_2 x8_1).f0) false _ A7.out).mono ?_); rintro e w' ⟨rfl, ⟨nd, rfl⟩⟩; (try exact dd))))
           go_ret
           exact ⟨ew, bl2 GE105 GE110⟩
       · rw [if_neg c6] at H
         exact absurd H (by simp)
     · rw [if_neg c5] at H
       exact absurd H (by simp)
   · rw [if_neg c4] at H
     have c4b0 : decide (x8_1 < (l0_2.length : Int)) = false := decide_eq_false c4
     clear c4
     obtain ⟨t106, A330, H⟩ := bo H
     have A33 := Aside0.mk A330
     clear A330
     by_cases c34 : t106 = true
     · subst c34
       replace H := iT H
       obtain ⟨t107, A350, H⟩ := bo H
       have A35 := Aside0.mk A350
       clear A350
       by_cases c36 : t107 = true
       · subst c36
         replace H := iT H
         obtain ⟨t108, A370, H⟩ := bo H
         have A37 := Aside0.mk A370
         clear A370
         obtain rfl := Option.some.inj H
         obtain ⟨hcz38_0, hcz38_1, hcz38_2, hfz38_0, hfz38_1, hfz38_2⟩ := cz3 BK105
         go_wp2_with (first | (go_at_call 151; (with_reducible refine (impl_NameOk.calls k1 a0_0 true _ A33.out).mono ?_); rintro e w' ⟨rfl, ⟨nd, rfl⟩⟩; (try exact dd)) | (go_at_call 151; (with_reducible refine (impl_NameOk.calls k1 a0_1 true _ A35.out).mono ?_); rintro e w' ⟨rfl, ⟨nd, rfl⟩⟩; (try exact dd)) | (go_at_call 124; (with_reducible refine (impl_in.calls (l0_2.length : Int) 1 12 t108 _ A37.out).mono ?_); rintro e w' ⟨rfl, ⟨nd, rfl⟩⟩; (try exact dd)))
         repeat (go_quiet (first | (go_at_call 151; (with_reducible refine (impl_NameOk.calls k1 a0_0 true _ A33.out).mono ?_); rintro e w' ⟨rfl, ⟨nd, rfl⟩⟩; (try exact dd)) | (go_at_call 151; (with_reducible refine (impl_NameOk.calls k1 a0_1 true _ A35.out).mono ?_); rintro e w' ⟨rfl, ⟨nd, rfl⟩⟩; (try exact dd)) | (go_at_call 124; (with_reducible refine (impl_in.calls (l0_2.length : Int) 1 12 t108 _ A37.out).mono ?_); rintro e w' ⟨rfl, ⟨nd, rfl⟩⟩; (try exact dd))); try go_wp2_with (first | (go_at_call 151; (with_reducible refine (impl_NameOk.calls k1 a0_0 true _ A33.out).mono ?_); rintro e w' ⟨rfl, ⟨nd, rfl⟩⟩; (try exact dd)) | (go_at_call 151; (with_reducible refine (impl_NameOk.calls k1 a0_1 true _ A35.out).mono ?_); rintro e w' ⟨rfl, ⟨nd, rfl⟩⟩; (try exact dd)) | (go_at_call 124; (with_reducible refine (impl_in.calls (l0_2.length : Int) 1 12 t108 _ A37.out).mono ?_); rintro e w' ⟨rfl, ⟨nd, rfl⟩⟩; (try exact dd))))
         go_ret
         exact ⟨ew, bl1 GE105⟩
       · replace c36 := Bool.eq_false_iff.mpr c36
         subst c36
         replace H := iF H
         obtain rfl := Option.some.inj H
         obtain ⟨hcz39_0, hcz39_1, hcz39_2, hfz39_0, hfz39_1, hfz39_2⟩ := cz3 BK105
         go_wp2_with (first | (go_at_call 151; (with_reducible refine (impl_NameOk.calls k1 a0_0 true _ A33.out).mono ?_); rintro e w' ⟨rfl, ⟨nd, rfl⟩⟩; (try exact dd)) | (go_at_call 151; (with_reducible refine (impl_NameOk.calls k1 a0_1 false _ A35.out).mono ?_); rintro e w' ⟨rfl, ⟨nd, rfl⟩⟩; (try exact dd)))
         repeat (go_quiet (first | (go_at_call 151; (with_reducible refine (impl_NameOk.calls k1 a0_0 true _ A33.out).mono ?_); rintro e w' ⟨rfl, ⟨nd, rfl⟩⟩; (try exact dd)) | (go_at_call 151; (with_reducible refine (impl_NameOk.calls k1 a0_1 false _ A35.out).mono ?_); rintro e w' ⟨rfl, ⟨nd, rfl⟩⟩; (try exact dd))); try go_wp2_with (first | (go_at_call 151; (with_reducible refine (impl_NameOk.calls k1 a0_0 true _ A33.out).mono ?_); rintro e w' ⟨rfl, ⟨nd, rfl⟩⟩; (try exact dd)) | (go_at_call 151; (with_reducible refine (impl_NameOk.calls k1 a0_1 false _ A35.out).mono ?_); rintro e w' ⟨rfl, ⟨nd, rfl⟩⟩; (try exact dd))))
         go_ret
         exact ⟨ew, bl1 GE105⟩
     · replace c34 := Bool.eq_false_iff.mpr c34
       subst c34
       replace H := iF H
       obtain rfl := Option.some.inj H
       obtain ⟨hcz40_0, hcz40_1, hcz40_2, hfz40_0, hfz40_1, hfz40_2⟩ := cz3 BK105
       go_wp2_with (first | (go_at_call 151; (with_reducible refine (impl_NameOk.calls k1 a0_0 false _ A33.out).mono ?_); rintro e w' ⟨rfl, ⟨nd, rfl⟩⟩; (try exact dd)))
       repeat (go_quiet (first | (go_at_call 151; (with_reducible refine (impl_NameOk.calls k1 a0_0 false _ A33.out).mono ?_); rintro e w' ⟨rfl, ⟨nd, rfl⟩⟩; (try exact dd))); try go_wp2_with (first | (go_at_call 151; (with_reducible refine (impl_NameOk.calls k1 a0_0 false _ A33.out).mono ?_); rintro e w' ⟨rfl, ⟨nd, rfl⟩⟩; (try exact dd))))
       go_ret
       exact ⟨ew, bl1 GE105⟩

end Go.Proofs.Ytplekidnlofioaa.Q
namespace Go.Proofs.Ytplekidnlofioaa.Q
open Go.RowKit Go.Proofs.YtplekidnlofioaaW.PrintWords Go.Proofs.YtplekidnlofioaaW.PrintLast Go.Proofs.YtplekidnlofioaaW.PrintMore
attribute [local go_sem] max2_int min2_int max_two min_two max_three min_three max_four min_four   -- for this text's walks alone
set_option linter.unusedVariables false
set_option linter.unusedSimpArgs false

/-! ### cmp_Or_int: function 152 -/
def cmp_Or_int.l0 : Nat → Int → List Int → Int → Int → Option (Int)
 | 0, _, _, _, _ => none
 | k + 1, x3, x6, x7, x8 => if x8 < x7 then (if 0 ≤ x8 then (if x8 < (x6.length : Int) then (if (rd x6 x8) = x3 then (cmp_Or_int.l0 k x3 x6 x7 (wrap64 (x8 + 1))) else (some (rd x6 x8))) else (none)) else (none)) else (some x3)
def cmp_Or_int.f (k : Nat) (l0 : List Int) : Option (Int) := cmp_Or_int.l0 k 0 l0 (l0.length : Int) 0
theorem cmp_Or_int.mono_l : ∀ k, (∀ y0 y1 y2 y3, LeO (cmp_Or_int.l0 k y0 y1 y2 y3) (cmp_Or_int.l0 (k + 1) y0 y1 y2 y3))
 | 0 => fun _ _ _ _ r h => by simp [cmp_Or_int.l0] at h
 | k + 1 => by
  have ih0 := cmp_Or_int.mono_l k
  · intro y0 y1 y2 y3
    unfold cmp_Or_int.l0
    repeat' first
    | (with_reducible exact ih0 _ _ _ _)
    | (with_reducible exact LeO.refl _)
    | (with_reducible exact LeO.none _)
    | (with_reducible refine LeO.ite ?_ ?_)
    | (with_reducible refine LeO.bind ?_ (fun _ => ?_))
    | exact ih0 _ _ _ _
    | exact LeO.none _
    | refine LeO.ite ?_ ?_
    | refine LeO.bind ?_ (fun _ => ?_)
theorem cmp_Or_int.mono : ∀ a0 k, LeO (cmp_Or_int.f k a0) (cmp_Or_int.f (k + 1) a0) := by
 intro a0 k
 have ih0 := cmp_Or_int.mono_l k
 unfold cmp_Or_int.f
 repeat' first
  | (with_reducible exact ih0 _ _ _ _)
  | (with_reducible exact LeO.refl _)
  | (with_reducible exact LeO.none _)
  | (with_reducible refine LeO.ite ?_ ?_)
  | (with_reducible refine LeO.bind ?_ (fun _ => ?_))
  | exact ih0 _ _ _ _
  | exact LeO.none _
  | refine LeO.ite ?_ ?_
  | refine LeO.bind ?_ (fun _ => ?_)
set_option maxHeartbeats 8000000 in
set_option maxRecDepth 100000 in
theorem cmp_Or_int.calls (k : Nat) (A0 : Option Addr) (c0 : Nat) (l0 : List Int) (r : Int) (w : World) (hr0 : Kd.C (Kd.int .i64) w A0 l0.length l0) (hc0 : l0.length ≤ c0) (h : cmp_Or_int.f k l0 = some r) :
 Calls Try.prog 152 #[.slice A0 l0.length c0] w fun e w' => e = .returned (.int .i64 r) ∧ Drawn0 w w' := by
 have HR0 := Aside0.mk hr0
 have HC0 := Aside0.mk hc0
 clear hr0 hc0
 have H : (cmp_Or_int.l0 k 0 l0 (l0.length : Int) 0) = some r := h
 clear h
 have H' := Aside0.mk H
 clear H
 go_enter Try.func152, Try.ntmps152
 go_wp2
 go_loopg [8] k (fun kq v8 w' => ∃ (x8_1 : Int), v8 = .int .i64 x8_1 ∧ Aside0 (cmp_Or_int.l0 kq 0 l0 (l0.length : Int) x8_1 = some r) ∧ Aside0 (kq ≤ k) ∧ Drawn0 w w')
 case atStart => exact ⟨(0), es, H', ⟨Nat.le_refl _⟩, dr0⟩
 case round =>
  clear H'
  try clear c1
  obtain ⟨x8_1, rfl, HA, HK1, ⟨m1, rfl⟩⟩ := hrel
  cases gk with
  | zero => exact absurd HA.out (by simp [cmp_Or_int.l0])
  | succ k1 =>
   have H := HA.out
   clear HA
   simp only [cmp_Or_int.l0] at H
   by_cases c2 : x8_1 < (l0.length : Int)
   · rw [if_pos c2] at H
     have c2b0 : decide (x8_1 < (l0.length : Int)) = true := decide_eq_true c2
     clear c2
     by_cases c3 : 0 ≤ x8_1
     · rw [if_pos c3] at H
       have c3b0 : decide (0 ≤ x8_1) = true := decide_eq_true c3
       clear c3
       by_cases c4 : x8_1 < (l0.length : Int)
       · rw [if_pos c4] at H
         have c4b0 : decide (x8_1 < (l0.length : Int)) = true := decide_eq_true c4
         clear c4
         by_cases c5 : (rd l0 x8_1) = 0
         · rw [if_pos c5] at H
           have c5b0 : ((rd l0 x8_1) == 0) = true := beq_iff_eq.mpr c5
           have c5b1 : ((rd l0 x8_1) != 0) = false := bne_eq_false_iff_eq.mpr c5
           clear c5
           have H' := Aside0.mk H
           clear H
           have p114 : 0 ≤ (x8_1 : Int) := of_decide_eq_true am
           have q114 : x8_1 < (l0.length : Int) := of_decide_eq_true am
           obtain ⟨ad114, e114, hx114_0⟩ := Kd.at_int HR0.out x8_1 p114 q114
           cases e114
           replace p114 := eq_true p114
           replace q114 := eq_true q114
           go_wp2
           go_roundg k1
           case measure => have := HK1.out; omega
           case rel => exact ⟨(wrap64 (x8_1 + 1)), es, H', ⟨kp⟩, dr0⟩
         · rw [if_neg c5] at H
           have c5b0 : ((rd l0 x8_1) == 0) = false := beq_eq_false_iff_ne.mpr c5
           have c5b1 : ((rd l0 x8_1) != 0) = true := bne_iff_ne.mpr c5
           obtain rfl := Option.some.inj H
           have p114 : 0 ≤ (x8_1 : Int) := of_decide_eq_true am
           have q114 : x8_1 < (l0.length : Int) := of_decide_eq_true am
           obtain ⟨ad114, e114, hx114_0⟩ := Kd.at_int HR0.out x8_1 p114 q114
           cases e114
           replace p114 := eq_true p114
           replace q114 := eq_true q114
           go_wp2
           go_ret
           exact ⟨es, dr0⟩
       · rw [if_neg c4] at H
         exact absurd H (by simp)
     · rw [if_neg c3] at H
       exact absurd H (by simp)
   · rw [if_neg c2] at H
     have c2b0 : decide (x8_1 < (l0.length : Int)) = false := decide_eq_false c2
     clear c2
     obtain rfl := Option.some.inj H
     go_wp2
     go_ret
     exact ⟨es, dr0⟩

end Go.Proofs.Ytplekidnlofioaa.Q
namespace Go.Proofs.Ytplekidnlofioaa.Q
open Go.RowKit Go.Proofs.YtplekidnlofioaaW.PrintWords Go.Proofs.YtplekidnlofioaaW.PrintLast Go.Proofs.YtplekidnlofioaaW.PrintMore
attribute [local go_sem] max2_int min2_int max_two min_two max_three min_three max_four min_four   -- for this text's walks alone
set_option linter.unusedVariables false
set_option linter.unusedSimpArgs false

/-! ### cmp_isNaN_string: function 183 -/
def cmp_isNaN_string.f (a0 : ByteArray) : Option (Bool) := some (a0.toList != a0.toList)
set_option maxHeartbeats 8000000 in
set_option maxRecDepth 100000 in
theorem cmp_isNaN_string.calls (a0 : ByteArray) (r : Bool) (w : World) (h : cmp_isNaN_string.f a0 = some r) :
 Calls Try.prog 183 #[.string a0] w fun e w' => e = .returned (.bool r) ∧ Drawn0 w w' := by
 have H : (some (a0.toList != a0.toList)) = some r := h
 clear h
 obtain rfl := Option.some.inj H
 go_enter Try.func183, Try.ntmps183
 go_wp2
 go_ret
 exact ⟨es, dr0⟩

end Go.Proofs.Ytplekidnlofioaa.Q
namespace Go.Proofs.Ytplekidnlofioaa.Q
open Go.RowKit Go.Proofs.YtplekidnlofioaaW.PrintWords Go.Proofs.YtplekidnlofioaaW.PrintLast Go.Proofs.YtplekidnlofioaaW.PrintMore
attribute [local go_sem] max2_int min2_int max_two min_two max_three min_three max_four min_four   -- for this text's walks alone
set_option linter.unusedVariables false
set_option linter.unusedSimpArgs false

/-! ### cmp_Compare_string: function 153 -/
def cmpB (a b : ByteArray) : Int := if Op.bytesLess a.toList b.toList = true then -1 else if (a.toList == b.toList) = true then 0 else 1
def cmp_Compare_string.f (a0 : ByteArray) (a1 : ByteArray) : Option (Int) := some (cmpB a0 a1)
set_option maxHeartbeats 8000000 in
theorem cmp_Compare_string.calls (a0 : ByteArray) (a1 : ByteArray) (r : Int) (w : World) (h : cmp_Compare_string.f a0 a1 = some r) :
 Calls Try.prog 153 #[.string a0, .string a1] w fun e w' => e = .returned (.int .i64 r) ∧ Drawn0 w w' := by
 obtain rfl := Option.some.inj h
 have n0 : cmp_isNaN_string.f a0 = some false := by simp [cmp_isNaN_string.f]
 have n1 : cmp_isNaN_string.f a1 = some false := by simp [cmp_isNaN_string.f]
 unfold cmpB
 cases h1 : Op.bytesLess a0.toList a1.toList <;> cases h2 : (a0.toList == a1.toList)
 all_goals
  go_enter Try.func153, Try.ntmps153
  go_wp2_with (go_at_call 183; refine (cmp_isNaN_string.calls _ false _ (by assumption)).mono ?_; rintro e w' ⟨rfl, ⟨nd, rfl⟩⟩)
  go_ret
  exact ⟨rfl, ⟨_, rfl⟩⟩

end Go.Proofs.Ytplekidnlofioaa.Q
namespace Go.Proofs.Ytplekidnlofioaa.Q
open Go.RowKit Go.Proofs.YtplekidnlofioaaW.PrintWords Go.Proofs.YtplekidnlofioaaW.PrintLast Go.Proofs.YtplekidnlofioaaW.PrintMore
attribute [local go_sem] max2_int min2_int max_two min_two max_three min_three max_four min_four   -- for this text's walks alone
set_option linter.unusedVariables false
set_option linter.unusedSimpArgs false

/-! ### impl_Series_compare: function 99 -/
def impl_Series_compare.f (k : Nat) (a0_0 : ByteArray) (a0_1 : ByteArray) (l0_2 : List (S37)) (a1 : ByteArray) (a2 : ByteArray) : Option (Int) := (cmp_Compare_string.f a0_0 a1).bind fun t116 => ((cmp_Compare_string.f a0_1 a2).bind fun t117 => ((cmp_Or_int.f k (([t116, t117] : List Int))).bind fun t121 => (some t121)))
theorem impl_Series_compare.mono : ∀ a0 a1 a2 a3 a4 k, LeO (impl_Series_compare.f k a0 a1 a2 a3 a4) (impl_Series_compare.f (k + 1) a0 a1 a2 a3 a4) := by
 intro a0 a1 a2 a3 a4 k
 unfold impl_Series_compare.f
 repeat' first
  | (with_reducible exact cmp_Or_int.mono _ _)
  | (with_reducible exact LeO.refl _)
  | (with_reducible exact LeO.none _)
  | (with_reducible refine LeO.ite ?_ ?_)
  | (with_reducible refine LeO.bind ?_ (fun _ => ?_))
  | exact cmp_Or_int.mono _ _
  | exact LeO.none _
  | refine LeO.ite ?_ ?_
  | refine LeO.bind ?_ (fun _ => ?_)
def impl_Series_compare.T1 : Bool × List (List Nat × List Nat) := (true, [([], []), ([0], [0]), ([], []), ([1, 2], [1, 2]), ([], []), ([4], [4]), ([], []), ([5, 6, 3], [5, 6]), ([3, 7], [3, 7]), ([8, 7], [8]), ([9, 9, 0, 1, 2, 3, 4, 5, 6, 7, 8, 9], [9])])
def impl_Series_compare.B1 : List Nat := [0, 1, 0, 7, 0, 16, 0, 127, 255, 511, 1023]
theorem impl_Series_compare.tab1 : rtab .any (opsOf Try.f99 1) = impl_Series_compare.T1 := by kernel_rfl
theorem impl_Series_compare.bits1 : waitsOk impl_Series_compare.T1.2 impl_Series_compare.B1 = true := by kernel_rfl
set_option maxHeartbeats 8000000 in
set_option maxRecDepth 100000 in
theorem impl_Series_compare.calls (k : Nat) (a0_0 : ByteArray) (a0_1 : ByteArray) (A0_2 : Option Addr) (c0_2 : Nat) (l0_2 : List (S37)) (a1 : ByteArray) (a2 : ByteArray) (r : Int) (w : World) (hr0_2 : Kd.C k37 w A0_2 l0_2.length l0_2) (hc0_2 : l0_2.length ≤ c0_2) (h : impl_Series_compare.f k a0_0 a0_1 l0_2 a1 a2 = some r) :
 Calls Try.prog 99 #[.agg #[.string a0_0, .string a0_1, .slice A0_2 l0_2.length c0_2], .string a1, .string a2] w fun e w' => e = .returned (.int .i64 r) ∧ Below w.heap.size w w' := by
 have hu81 := Try.underlying81
 have HR0_2 := Aside0.mk hr0_2
 have HC0_2 := Aside0.mk hc0_2
 clear hr0_2 hc0_2
 have HB := Aside0.mk (Below.refl w.heap.size w)
 have H : ((cmp_Compare_string.f a0_0 a1).bind fun t116 => ((cmp_Compare_string.f a0_1 a2).bind fun t117 => ((cmp_Or_int.f k (([t116, t117] : List Int))).bind fun t121 => (some t121)))) = some r := h
 clear h
 obtain ⟨t116, A40, H⟩ := bo H
 have A4 := Aside0.mk A40
 clear A40
 obtain ⟨t117, A50, H⟩ := bo H
 have A5 := Aside0.mk A50
 clear A50
 obtain ⟨y118, hy118⟩ : ∃ y_ : List Int, y_ = (([t116, t117] : List Int)) := ⟨_, rfl⟩
 replace H : ((cmp_Or_int.f k y118).bind fun t121 => (some t121)) = some r := by first | (rw [hy118]; with_reducible exact H) | (have H2_ := (Option.bind_some _ _).symm.trans H; rw [hy118]; with_reducible exact H2_) | (have H2_ := (Option.bind_some _ _).symm.trans H; with_reducible exact H2_) | with_reducible exact H | (rw [hy118]; exact H) | exact H
 have Ny118 := Aside0.mk hy118
 clear hy118
 obtain ⟨t121, A60, H⟩ := bo H
 have A6 := Aside0.mk A60
 clear A60
 obtain rfl := Option.some.inj H
 go_enter Try.func99, Try.ntmps99
 try go_wp2_with (first | ((with_reducible refine gate_dst (N := 3) rfl ?_); refine bx 3 #[.string a0_0, .string a0_1, .slice A0_2 l0_2.length c0_2] 81 ?_; intro gb115 hg w7 hbox hb; have BK115 := ak hbox; have GW115 := gs hg bl; have GE115 := gs hg bl; replace HB := ak (below_step bl hb); clear hb hbox hg))
 replace BK115 := ak (blk_drew BK115.out)
 replace HB := ak (below_drew1 HB.out)
 refine start_ (n := 11) (S := fun w' => w'.cell? ⟨gb115, 0, none⟩ = some (.string a0_0) ∧ w'.cell? ⟨gb115, 1, none⟩ = some (.string a0_1) ∧ w'.cell? ⟨gb115, 2, none⟩ = some (.slice A0_2 l0_2.length c0_2)) (ds := []) (bitsA 11 0) (by kernel_rfl) rfl rfl ⟨bc BK115 0, bc BK115 1, bc BK115 2⟩ (fun hHeld => ?_); refine with_tabW impl_Series_compare.tab1 impl_Series_compare.bits1 (fun HT_ HW_ => ?_)
 generalize w7.drew = w8 at BK115 HB hHeld ⊢
 refine pu 0 (some 7) (bitsA 11 1) ?_
 refine pu 2 (some 9) (bitsA 11 5) ?_
 refine pu 4 (some 11) (bitsA 11 21) ?_
 refine pu 6 (some 13) (bitsA 11 85) ?_
 refine tk 1 (some 8) (bitsA 11 87) hHeld ?_ (hy := Or.inl ⟨by rfl, by rintro w' ⟨s0, s1, s2⟩; go_simp; with_reducible rfl⟩)
 refine tk 5 (some 12) (bitsA 11 119) hHeld ?_ (hy := Or.inl ⟨by rfl, by rintro w' ⟨s0, s1, s2⟩; go_simp; with_reducible rfl⟩)
 refine one_ (i := 3) (N := some 10) (bitsA 11 127) rfl rfl (one_of HT_.out (by kernel_rfl)) (by decide) (fun K hK => ?_)
 refine goes_ Try.func153 (by kernel_rfl) rfl #[.string a0_0, .string a1] (by rfl) rfl rfl mt ?_
 with_reducible refine (cmp_Compare_string.calls a0_0 a1 t116 _ A4.out).mono ?_
 rintro e w' ⟨rfl, ⟨nd, rfl⟩⟩
 refine ⟨_, rfl, ?_⟩
 refine hK.out _ _ ⟨bc BK115 0, bc BK115 1, bc BK115 2⟩ (fun hHeld => ?_)
 clear hK K
 refine nm ?_
 refine one_ (i := 7) (N := some 14) (bitsA 11 255) rfl rfl (one_of HT_.out (by kernel_rfl)) (by decide) (fun K hK => ?_)
 refine goes_ Try.func153 (by kernel_rfl) rfl #[.string a0_1, .string a2] (by rfl) rfl rfl mt ?_
 with_reducible refine (cmp_Compare_string.calls a0_1 a2 t117 _ A5.out).mono ?_
 rintro e w' ⟨rfl, ⟨nd, rfl⟩⟩
 refine ⟨_, rfl, ?_⟩
 refine hK.out _ _ ⟨bc BK115 0, bc BK115 1, bc BK115 2⟩ (fun hHeld => ?_)
 clear hK K
 refine nm ?_
 refine one_ (i := 8) (N := some 15) (bitsA 11 511) rfl rfl (one_of HT_.out (by kernel_rfl)) (by decide) (fun K hK => ?_)
 refine Kd.R_lit_step (Kd.int .i64) _ 3 ?hg (N := 15) ?hd (xs := ([t116, t117] : List Int)) (inner := [.int .i64 t116, .int .i64 t117]) (ok := fun _ => True) (okp := fun _ => True) ?hr ?hp (fun _ hk => hk) trivial (Below.refl _ _) (Nat.le_refl _) (by simp) ?_; (case hd => rfl); (case hg => rfl); (case hr => first | (go_simp; done) | (go_simp; rfl)); (case hp => exact (Reps.one (show Kd.M (Kd.int .i64) _ _ _ t116 [.int .i64 t116] from rfl) (Reps.one (show Kd.M (Kd.int .i64) _ _ _ t117 [.int .i64 t117] from rfl) (Reps.none _ _))))
 intro v119 w9 ho10 hb hg_ hnew_
 clear hg_ hnew_
 (first | rw [← Ny118.out] at ho10 | (simp only [Int.reduceToNat] at ho10; rw [← Ny118.out] at ho10))
 have HO120 := ak (Kd.R_lower ho10 (below_size (bl1 GE115)))
 replace BK115 := bb BK115 hb
 replace HB := ak (below_step (bl1 GE115) hb)
 clear hb ho10
 obtain ⟨Ao11, co11, eo11⟩ := Kd.R_slice HO120.out
 (first | subst eo11 | (injection eo11 with f1_ f2_ f3_; have f4_ := f1_.symm; have f5_ := f3_.symm; clear f1_ f2_ f3_; subst f4_; subst f5_))
 refine hK.out _ _ ⟨bc BK115 0, bc BK115 1, bc BK115 2⟩ (fun hHeld => ?_)
 clear hK K
 refine nm ?_
 refine one_ (i := 9) (N := some 16) (bitsA 11 1023) rfl rfl (one_of HT_.out (by kernel_rfl)) (by decide) (fun K hK => ?_)
 refine goes_ Try.func152 (by kernel_rfl) rfl #[.slice Ao11 y118.length co11] (by rfl) rfl rfl mt ?_
 with_reducible refine (cmp_Or_int.calls k _ _ y118 t121 _ ?side1 ?side2 A6.out).mono ?_
 (case side1 => repeat (first | exact (Kd.R_reads' HO120.out).2.2 | (with_reducible refine Kd.C_alloc ?_ _) | (with_reducible refine Kd.C_drewN ?_ _) | (with_reducible refine Kd.C_drew ?_)))
 (case side2 => exact (Kd.R_reads' HO120.out).2.1)
 rintro e w' ⟨rfl, ⟨nd, rfl⟩⟩
 refine ⟨_, rfl, ?_⟩
 refine hK.out _ _ ⟨bc BK115 0, bc BK115 1, bc BK115 2⟩ (fun hHeld => ?_)
 clear hK K
 refine nm ?_
 refine pu 10 (some 6) (bitsA 11 2047) ?_
 refine done_ (done_of HT_.out (by kernel_rfl)) ?_
 try go_wp2
 go_ret
 exact ⟨ew, bl1 GE115⟩

end Go.Proofs.Ytplekidnlofioaa.Q
namespace Go.Proofs.Ytplekidnlofioaa.Q
open Go.RowKit Go.Proofs.YtplekidnlofioaaW.PrintWords Go.Proofs.YtplekidnlofioaaW.PrintLast Go.Proofs.YtplekidnlofioaaW.PrintMore
attribute [local go_sem] max2_int min2_int max_two min_two max_three min_three max_four min_four   -- for this text's walks alone
set_option linter.unusedVariables false
set_option linter.unusedSimpArgs false

/-! ### impl_StoreOk: function 49 -/
def impl_StoreOk.l0 : Nat → List (S81) → List (S81) → Int → Int → Option (Bool)
 | 0, _, _, _, _ => none
 | k + 1, x0, x5, x6, x7 => if x7 < x6 then (if 0 ≤ x7 then (if x7 < (x5.length : Int) then ((impl_Series_ok.f k ((rd_T81 x5 x7).f0) ((rd_T81 x5 x7).f1) ((rd_T81 x5 x7).f2)).bind fun t124 => (if t124 = true then (if x7 > 0 then (if 0 ≤ (wrap64 (x7 - 1)) then (if (wrap64 (x7 - 1)) < (x0.length : Int) then ((impl_Series_compare.f k ((rd_T81 x0 (wrap64 (x7 - 1))).f0) ((rd_T81 x0 (wrap64 (x7 - 1))).f1) ((rd_T81 x0 (wrap64 (x7 - 1))).f2) ((rd_T81 x5 x7).f0) ((rd_T81 x5 x7).f1)).bind fun t126 => (if t126 ≥ 0 then (some false) else (impl_StoreOk.l0 k x0 x5 x6 (wrap64 (x7 + 1))))) else (none)) else (none)) else (impl_StoreOk.l0 k x0 x5 x6 (wrap64 (x7 + 1)))) else (some false))) else (none)) else (none)) else (some (decide ((x0.length : Int) ≤ 24)))
def impl_StoreOk.f (k : Nat) (l0 : List (S81)) : Option (Bool) := impl_StoreOk.l0 k l0 l0 (l0.length : Int) 0
theorem impl_StoreOk.mono_l : ∀ k, (∀ y0 y1 y2 y3, LeO (impl_StoreOk.l0 k y0 y1 y2 y3) (impl_StoreOk.l0 (k + 1) y0 y1 y2 y3))
 | 0 => fun _ _ _ _ r h => by simp [impl_StoreOk.l0] at h
 | k + 1 => by
  have ih0 := impl_StoreOk.mono_l k
  · intro y0 y1 y2 y3
    unfold impl_StoreOk.l0
    repeat' first
    | (with_reducible exact ih0 _ _ _ _)
    | (with_reducible exact impl_Series_compare.mono _ _ _ _ _ _)
    | (with_reducible exact impl_Series_ok.mono _ _ _ _)
    | (with_reducible exact LeO.refl _)
    | (with_reducible exact LeO.none _)
    | (with_reducible refine LeO.ite ?_ ?_)
    | (with_reducible refine LeO.bind ?_ (fun _ => ?_))
    | exact ih0 _ _ _ _
    | exact impl_Series_compare.mono _ _ _ _ _ _
    | exact impl_Series_ok.mono _ _ _ _
    | exact LeO.none _
    | refine LeO.ite ?_ ?_
    | refine LeO.bind ?_ (fun _ => ?_)
theorem impl_StoreOk.mono : ∀ a0 k, LeO (impl_StoreOk.f k a0) (impl_StoreOk.f (k + 1) a0) := by
 intro a0 k
 have ih0 := impl_StoreOk.mono_l k
 unfold impl_StoreOk.f
 repeat' first
  | (with_reducible exact ih0 _ _ _ _)
  | (with_reducible exact impl_Series_compare.mono _ _ _ _ _ _)
  | (with_reducible exact impl_Series_ok.mono _ _ _ _)
  | (with_reducible exact LeO.refl _)
  | (with_reducible exact LeO.none _)
  | (with_reducible refine LeO.ite ?_ ?_)
  | (with_reducible refine LeO.bind ?_ (fun _ => ?_))
  | exact ih0 _ _ _ _
  | exact impl_Series_compare.mono _ _ _ _ _ _
  | exact impl_Series_ok.mono _ _ _ _
  | exact LeO.none _
  | refine LeO.ite ?_ ?_
  | refine LeO.bind ?_ (fun _ => ?_)
def impl_StoreOk.T4 : Bool × List (List Nat × List Nat) := (true, [([], []), ([0], [0]), ([1], [1]), ([2, 1], [2]), ([3], [3]), ([4, 3], [3, 4]), ([5, 3, 3], [3, 5]), ([6], [6]), ([6], [6]), ([8, 6], [6, 8]), ([7, 9, 6], [6, 7, 9]), ([10, 6], [6, 10]), ([6], [6]), ([12, 6], [6, 12]), ([6], [6]), ([14, 6], [6, 14]), ([11, 13, 15, 6, 6], [6, 11, 13, 15]), ([16, 6], [6, 16]), ([6, 17, 3], [3, 6, 17]), ([3, 18], [3, 18])])
def impl_StoreOk.B4 : List Nat := [0, 1, 3, 7, 15, 31, 63, 127, 127, 383, 1023, 2047, 127, 4223, 127, 16511, 65535, 131071, 262143, 524287]
theorem impl_StoreOk.tab4 : rtab .any (opsOf Try.f49 4) = impl_StoreOk.T4 := by kernel_rfl
theorem impl_StoreOk.bits4 : waitsOk impl_StoreOk.T4.2 impl_StoreOk.B4 = true := by kernel_rfl
set_option maxHeartbeats 8000000 in
set_option maxRecDepth 100000 in
theorem impl_StoreOk.calls (k : Nat) (A0 : Option Addr) (c0 : Nat) (l0 : List (S81)) (r : Bool) (w : World) (hr0 : Kd.C k81 w A0 l0.length l0) (hc0 : l0.length ≤ c0) (h : impl_StoreOk.f k l0 = some r) :
 Calls Try.prog 49 #[.slice A0 l0.length c0] w fun e w' => e = .returned (.bool r) ∧ Below w.heap.size w w' := by
 have hu81 := Try.underlying81
 have HR0 := Aside0.mk hr0
 have HC0 := Aside0.mk hc0
 clear hr0 hc0
 have HB := Aside0.mk (Below.refl w.heap.size w)
 have H : (impl_StoreOk.l0 k l0 l0 (l0.length : Int) 0) = some r := h
 clear h
 have H' := Aside0.mk H
 clear H
 go_enter Try.func49, Try.ntmps49
 go_wp2
 go_loopg [7] k (fun kq v7 w' => ∃ (x7_1 : Int), v7 = .int .i64 x7_1 ∧ Aside0 (impl_StoreOk.l0 kq l0 l0 (l0.length : Int) x7_1 = some r) ∧ Aside0 (kq ≤ k) ∧ Aside0 (Below w.heap.size w w'))
 case atStart => exact ⟨(0), es, H', ⟨Nat.le_refl _⟩, ⟨bl⟩⟩
 case round =>
  clear H'
  obtain ⟨x7_1, rfl, HA, HK1, HB⟩ := hrel
  cases gk with
  | zero => exact absurd HA.out (by simp [impl_StoreOk.l0])
  | succ k1 =>
   have H := HA.out
   clear HA
   simp only [impl_StoreOk.l0] at H
   by_cases c2 : x7_1 < (l0.length : Int)
   · rw [if_pos c2] at H
     have c2b0 : decide (x7_1 < (l0.length : Int)) = true := decide_eq_true c2
     clear c2
     by_cases c3 : 0 ≤ x7_1
     · rw [if_pos c3] at H
       have c3b0 : decide (0 ≤ x7_1) = true := decide_eq_true c3
       clear c3
       by_cases c4 : x7_1 < (l0.length : Int)
       · rw [if_pos c4] at H
         have c4b0 : decide (x7_1 < (l0.length : Int)) = true := decide_eq_true c4
         clear c4
         obtain ⟨t124, A50, H⟩ := bo H
         have A5 := Aside0.mk A50
         clear A50
         by_cases c6 : t124 = true
         · subst c6
           replace H := iT H
           by_cases c7 : x7_1 > 0
           · rw [if_pos c7] at H
             have c7b0 : decide (0 < x7_1) = true := decide_eq_true c7
             clear c7
             obtain ⟨ji8, hji8⟩ : ∃ j_ : Int, (wrap64 (x7_1 - 1)) = j_ := ⟨_, rfl⟩
             replace H : (if 0 ≤ (ji8) then (if (ji8) < (l0.length : Int) then ((impl_Series_compare.f k1 ((rd_T81 l0 (ji8)).f0) ((rd_T81 l0 (ji8)).f1) ((rd_T81 l0 (ji8)).f2) ((rd_T81 l0 x7_1).f0) ((rd_T81 l0 x7_1).f1)).bind fun t126 => (if t126 ≥ 0 then (some false) else (impl_StoreOk.l0 k1 l0 l0 (l0.length : Int) (wrap64 (x7_1 + 1))))) else (none)) else (none)) = some r := by first | (rw [hji8] at H; exact H) | (simp only [hji8] at H ⊢; exact H)
             (try rw [hji8] at A5)
             have hji8w : (IntKind.i64.wrap (x7_1 - 1)) = ji8 := (i64_w _).trans hji8
             by_cases c9 : 0 ≤ (ji8)
             · rw [if_pos c9] at H
               have c9b0 : decide (0 ≤ (ji8)) = true := decide_eq_true c9
               clear c9
               by_cases c10 : (ji8) < (l0.length : Int)
               · rw [if_pos c10] at H
                 have c10b0 : decide ((ji8) < (l0.length : Int)) = true := decide_eq_true c10
                 clear c10
                 obtain ⟨t126, A110, H⟩ := bo H
                 have A11 := Aside0.mk A110
                 clear A110
                 by_cases c12 : t126 ≥ 0
                 · rw [if_pos c12] at H
                   have c12b0 : decide (0 ≤ t126) = true := decide_eq_true c12
                   clear c12
                   obtain rfl := Option.some.inj H
                   have p122 : 0 ≤ (x7_1 : Int) := of_decide_eq_true am
                   have q122 : x7_1 < (l0.length : Int) := of_decide_eq_true am
                   obtain ⟨ad122, A122_2, c122_2, e122, hx122_0, hx122_1, hx122_2, hl122_2, hi122_2⟩ := at_T81 HR0.out x7_1 p122 q122
                   cases e122
                   replace hx122_0 := cw hx122_0
                   replace hx122_1 := cw hx122_1
                   replace hx122_2 := cw hx122_2
                   have HR122_2 := Aside0.mk hi122_2
                   have HC122_2 := Aside0.mk hl122_2
                   clear hi122_2 hl122_2
                   replace p122 := eq_true p122
                   replace q122 := eq_true q122
                   try go_wp2_with (first | ((with_reducible refine gate_dst (N := 4) rfl ?_); refine bx 4 #[.string (⟨#[]⟩ : ByteArray), .string (⟨#[]⟩ : ByteArray), .slice none 0 0] 81 ?_; intro gb123 hg w13 hbox hb; have BK123 := ak hbox; have GW123 := gs hg bl; have GE123 := gs hg bl; replace HB := ak (below_step bl hb); clear hb hbox hg; obtain ⟨hcz14_0, hcz14_1, hcz14_2, hfz14_0, hfz14_1, hfz14_2⟩ := cz3 BK123))
                   have n0_ : Aside0 ((((w13.setCell ⟨gb123, 0, none⟩ (.string ((rd_T81 l0 x7_1).f0))).setCell ⟨gb123, 1, none⟩ (.string ((rd_T81 l0 x7_1).f1))).setCell ⟨gb123, 2, none⟩ (.slice A122_2 ((rd_T81 l0 x7_1).f2).length c122_2)).heap[gb123]? = some (.cells #[.string ((rd_T81 l0 x7_1).f0), .string ((rd_T81 l0 x7_1).f1), .slice A122_2 ((rd_T81 l0 x7_1).f2).length c122_2] 81 (0, 0))) := ⟨by (with_reducible repeat (first | refine blk_drewN ?_ _ | refine blk_drew ?_ | refine blk_alloc ?_ _)); refine blk_put (cs := #[.string ((rd_T81 l0 x7_1).f0), .string ((rd_T81 l0 x7_1).f1), .slice none 0 0]) ?_ 2 _ rfl; (with_reducible repeat (first | refine blk_drewN ?_ _ | refine blk_drew ?_ | refine blk_alloc ?_ _)); refine blk_put (cs := #[.string ((rd_T81 l0 x7_1).f0), .string (⟨#[]⟩ : ByteArray), .slice none 0 0]) ?_ 1 _ rfl; (with_reducible repeat (first | refine blk_drewN ?_ _ | refine blk_drew ?_ | refine blk_alloc ?_ _)); refine blk_put (cs := #[.string (⟨#[]⟩ : ByteArray), .string (⟨#[]⟩ : ByteArray), .slice none 0 0]) ?_ 0 _ rfl; (with_reducible repeat (first | refine blk_drewN ?_ _ | refine blk_drew ?_ | refine blk_alloc ?_ _)); exact BK123.out⟩
                   have n1_ : Aside0 (Below w.heap.size w (((w13.setCell ⟨gb123, 0, none⟩ (.string ((rd_T81 l0 x7_1).f0))).setCell ⟨gb123, 1, none⟩ (.string ((rd_T81 l0 x7_1).f1))).setCell ⟨gb123, 2, none⟩ (.slice A122_2 ((rd_T81 l0 x7_1).f2).length c122_2))) := ⟨bl1 GE123⟩
                   (try clear BK123)
                   (try clear HB)
                   generalize (((w13.setCell ⟨gb123, 0, none⟩ (.string ((rd_T81 l0 x7_1).f0))).setCell ⟨gb123, 1, none⟩ (.string ((rd_T81 l0 x7_1).f1))).setCell ⟨gb123, 2, none⟩ (.slice A122_2 ((rd_T81 l0 x7_1).f2).length c122_2)) = w15 at n0_ n1_ ⊢
                   have BK123 := n0_
                   have HB := n1_
                   clear n0_ n1_
                   replace BK123 := ak (blk_drew BK123.out)
                   replace HB := ak (below_drew1 HB.out)
                   have p125 : 0 ≤ ((ji8) : Int) := of_decide_eq_true am
                   have q125 : (ji8) < (l0.length : Int) := of_decide_eq_true am
                   obtain ⟨ad125, A125_2, c125_2, e125, hx125_0, hx125_1, hx125_2, hl125_2, hi125_2⟩ := at_T81 HR0.out (ji8) p125 q125
                   have hw125_2 := hx125_2
                   have hw125_1 := hx125_1
                   have hw125_0 := hx125_0
                   obtain rfl : ad122 = ad125 := (by injection e125)
                   replace hx125_0 := cw hx125_0
                   replace hx125_1 := cw hx125_1
                   replace hx125_2 := cw hx125_2
                   have HR125_2 := Aside0.mk hi125_2
                   have HC125_2 := Aside0.mk hl125_2
                   clear hi125_2 hl125_2
                   replace p125 := eq_true p125
                   replace q125 := eq_true q125
                   refine start_ (n := 20) (S := fun w' => w'.cell? ⟨gb123, 0, none⟩ = some (.string ((rd_T81 l0 x7_1).f0)) ∧ w'.cell? ⟨gb123, 1, none⟩ = some (.string ((rd_T81 l0 x7_1).f1)) ∧ w'.cell? ⟨gb123, 2, none⟩ = some (.slice A122_2 ((rd_T81 l0 x7_1).f2).length c122_2) ∧ w'.cell? (ad122.add (((ji8)).toNat * 3)) = some (.string ((rd_T81 l0 (ji8)).f0)) ∧ w'.cell? ⟨(ad122.add (((ji8)).toNat * 3)).block, (ad122.add (((ji8)).toNat * 3)).off + 1, none⟩ = some (.string ((rd_T81 l0 (ji8)).f1)) ∧ w'.cell? ⟨(ad122.add (((ji8)).toNat * 3)).block, (ad122.add (((ji8)).toNat * 3)).off + 2, none⟩ = some (.slice A125_2 ((rd_T81 l0 (ji8)).f2).length c125_2)) (ds := []) (bitsA 20 0) (by kernel_rfl) rfl rfl ⟨bc BK123 0, bc BK123 1, bc BK123 2, (cw hw125_0), (cw hw125_1), (cw hw125_2)⟩ (fun hHeld => ?_); refine with_tabW impl_StoreOk.tab4 impl_StoreOk.bits4 (fun HT_ HW_ => ?_)
                   generalize w15.drew = w16 at BK123 HB HR125_2 hx125_0 hx125_1 hx125_2 hHeld ⊢
                   refine tk 0 (some 12) (bitsA 20 1) hHeld ?_ (hy := Or.inl ⟨by rfl, by rintro w' ⟨s0, s1, s2, s3, s4, s5⟩; go_simp; with_reducible rfl⟩)
                   refine one_ (i := 1) (N := some 13) (bitsA 20 3) rfl rfl (one_of HT_.out (by kernel_rfl)) (by decide) (fun K hK => ?_)
                   refine goes_ Try.func98 (by kernel_rfl) rfl #[.agg #[.string ((rd_T81 l0 x7_1).f0), .string ((rd_T81 l0 x7_1).f1), .slice A122_2 ((rd_T81 l0 x7_1).f2).length c122_2]] (by rfl) rfl rfl mt ?_
                   with_reducible refine (impl_Series_ok.calls k1 ((rd_T81 l0 x7_1).f0) ((rd_T81 l0 x7_1).f1) _ _ ((rd_T81 l0 x7_1).f2) true _ ?side1 ?side2 A5.out).mono ?_
                   (case side1 => exact cb HR122_2)
                   (case side2 => exact HC122_2.out)
                   rintro e w17 ⟨rfl, hb⟩
                   refine ⟨_, rfl, ?_⟩
                   replace BK123 := bb BK123 hb
                   replace HB := ak (below_step (bl1 GE123) hb)
                   (try clear hb)
                   (try clear hb2)
                   (try clear hk)
                   (try clear hi)
                   refine hK.out _ _ ⟨bc BK123 0, bc BK123 1, bc BK123 2, (cw hw125_0), (cw hw125_1), (cw hw125_2)⟩ (fun hHeld => ?_)
                   clear hK K
                   refine nm ?_
                   refine pu 2 (some 14) (bitsA 20 7) ?_
                   refine pu 3 (some 15) (bitsA 20 15) ?_
                   refine pu 4 (some 16) (bitsA 20 31) ?_
                   refine pu 5 (some 17) (bitsA 20 63) ?_
                   refine pu 6 (some 18) (bitsA 20 127) ?_
                   refine pu 7 (some 19) (bitsA 20 255) ?_
                   refine pu 8 (some 20) (bitsA 20 511) ?_
                   refine pu 9 (some 21) (bitsA 20 1023) ?_
                   refine pu 10 (some 22) (bitsA 20 2047) ?_
                   refine tk 11 (some 23) (bitsA 20 4095) hHeld ?_ (hy := Or.inl ⟨by rfl, by rintro w' ⟨s0, s1, s2, s3, s4, s5⟩; go_simp; with_reducible rfl⟩)
                   refine pu 12 (some 24) (bitsA 20 8191) ?_
                   refine tk 13 (some 25) (bitsA 20 16383) hHeld ?_ (hy := Or.inl ⟨by rfl, by rintro w' ⟨s0, s1, s2, s3, s4, s5⟩; go_simp; with_reducible rfl⟩)
                   refine pu 14 (some 26) (bitsA 20 32767) ?_
                   refine tk 15 (some 27) (bitsA 20 65535) hHeld ?_ (hy := Or.inl ⟨by rfl, by rintro w' ⟨s0, s1, s2, s3, s4, s5⟩; go_simp; with_reducible rfl⟩)
                   refine one_ (i := 16) (N := some 28) (bitsA 20 131071) rfl rfl (one_of HT_.out (by kernel_rfl)) (by decide) (fun K hK => ?_)
                   refine goes_ Try.func99 (by kernel_rfl) rfl #[.agg #[.string ((rd_T81 l0 (ji8)).f0), .string ((rd_T81 l0 (ji8)).f1), .slice A125_2 ((rd_T81 l0 (ji8)).f2).length c125_2], .string ((rd_T81 l0 x7_1).f0), .string ((rd_T81 l0 x7_1).f1)] (by rfl) rfl rfl (by (try simp only [List.map_toArray, List.map_cons, List.map_nil]); first | done | (simp only [hji8]; rfl) | rfl | (simp only [List.length_drop, List.length_take]; rfl)) ?_
                   with_reducible refine (impl_Series_compare.calls k1 ((rd_T81 l0 (ji8)).f0) ((rd_T81 l0 (ji8)).f1) _ _ ((rd_T81 l0 (ji8)).f2) ((rd_T81 l0 x7_1).f0) ((rd_T81 l0 x7_1).f1) t126 _ ?side1 ?side2 A11.out).mono ?_
                   (case side1 => exact cb HR125_2)
                   (case side2 => exact HC125_2.out)
                   rintro e w18 ⟨rfl, hb⟩
                   refine ⟨_, rfl, ?_⟩
                   replace BK123 := bb BK123 hb
                   replace HB := ak (below_step (bl1 GE123) hb)
                   (try clear hb)
                   (try clear hb2)
                   (try clear hk)
                   (try clear hi)
                   refine hK.out _ _ ⟨bc BK123 0, bc BK123 1, bc BK123 2, (cw hw125_0), (cw hw125_1), (cw hw125_2)⟩ (fun hHeld => ?_)
                   clear hK K
                   refine nm ?_
                   refine pu 17 (some 29) (bitsA 20 262143) ?_
                   refine pu 18 (some 30) (bitsA 20 524287) ?_
                   refine pu 19 (some 31) (bitsA 20 1048575) ?_
                   refine done_ (done_of HT_.out (by kernel_rfl)) ?_
                   try go_wp2
                   go_ret
                   exact ⟨by first | rfl | (simp [errW_none, errW_some] <;> rfl) | (simp only [← hji8]; first | rfl | (simp [errW_none, errW_some] <;> rfl)) | (simp [*, errW_none, errW_some] <;> rfl), bl1 GE123⟩
                 · rw [if_neg c12] at H
                   have c12b0 : decide (0 ≤ t126) = false := decide_eq_false c12
                   clear c12
                   have H' := Aside0.mk H
                   clear H
                   have p122 : 0 ≤ (x7_1 : Int) := of_decide_eq_true am
                   have q122 : x7_1 < (l0.length : Int) := of_decide_eq_true am
                   obtain ⟨ad122, A122_2, c122_2, e122, hx122_0, hx122_1, hx122_2, hl122_2, hi122_2⟩ := at_T81 HR0.out x7_1 p122 q122
                   cases e122
                   replace hx122_0 := cw hx122_0
                   replace hx122_1 := cw hx122_1
                   replace hx122_2 := cw hx122_2
                   have HR122_2 := Aside0.mk hi122_2
                   have HC122_2 := Aside0.mk hl122_2
                   clear hi122_2 hl122_2
                   replace p122 := eq_true p122
                   replace q122 := eq_true q122
                   try go_wp2_with (first | ((with_reducible refine gate_dst (N := 4) rfl ?_); refine bx 4 #[.string (⟨#[]⟩ : ByteArray), .string (⟨#[]⟩ : ByteArray), .slice none 0 0] 81 ?_; intro gb123 hg w19 hbox hb; have BK123 := ak hbox; have GW123 := gs hg bl; have GE123 := gs hg bl; replace HB := ak (below_step bl hb); clear hb hbox hg; obtain ⟨hcz20_0, hcz20_1, hcz20_2, hfz20_0, hfz20_1, hfz20_2⟩ := cz3 BK123))
                   have n0_ : Aside0 ((((w19.setCell ⟨gb123, 0, none⟩ (.string ((rd_T81 l0 x7_1).f0))).setCell ⟨gb123, 1, none⟩ (.string ((rd_T81 l0 x7_1).f1))).setCell ⟨gb123, 2, none⟩ (.slice A122_2 ((rd_T81 l0 x7_1).f2).length c122_2)).heap[gb123]? = some (.cells #[.string ((rd_T81 l0 x7_1).f0), .string ((rd_T81 l0 x7_1).f1), .slice A122_2 ((rd_T81 l0 x7_1).f2).length c122_2] 81 (0, 0))) := ⟨by (with_reducible repeat (first | refine blk_drewN ?_ _ | refine blk_drew ?_ | refine blk_alloc ?_ _)); refine blk_put (cs := #[.string ((rd_T81 l0 x7_1).f0), .string ((rd_T81 l0 x7_1).f1), .slice none 0 0]) ?_ 2 _ rfl; (with_reducible repeat (first | refine blk_drewN ?_ _ | refine blk_drew ?_ | refine blk_alloc ?_ _)); refine blk_put (cs := #[.string ((rd_T81 l0 x7_1).f0), .string (⟨#[]⟩ : ByteArray), .slice none 0 0]) ?_ 1 _ rfl; (with_reducible repeat (first | refine blk_drewN ?_ _ | refine blk_drew ?_ | refine blk_alloc ?_ _)); refine blk_put (cs := #[.string (⟨#[]⟩ : ByteArray), .string (⟨#[]⟩ : ByteArray), .slice none 0 0]) ?_ 0 _ rfl; (with_reducible repeat (first | refine blk_drewN ?_ _ | refine blk_drew ?_ | refine blk_alloc ?_ _)); exact BK123.out⟩
                   have n1_ : Aside0 (Below w.heap.size w (((w19.setCell ⟨gb123, 0, none⟩ (.string ((rd_T81 l0 x7_1).f0))).setCell ⟨gb123, 1, none⟩ (.string ((rd_T81 l0 x7_1).f1))).setCell ⟨gb123, 2, none⟩ (.slice A122_2 ((rd_T81 l0 x7_1).f2).length c122_2))) := ⟨bl1 GE123⟩
                   (try clear BK123)
                   (try clear HB)
                   generalize (((w19.setCell ⟨gb123, 0, none⟩ (.string ((rd_T81 l0 x7_1).f0))).setCell ⟨gb123, 1, none⟩ (.string ((rd_T81 l0 x7_1).f1))).setCell ⟨gb123, 2, none⟩ (.slice A122_2 ((rd_T81 l0 x7_1).f2).length c122_2)) = w21 at n0_ n1_ ⊢
                   have BK123 := n0_
                   have HB := n1_
                   clear n0_ n1_
                   replace BK123 := ak (blk_drew BK123.out)
                   replace HB := ak (below_drew1 HB.out)
                   have p125 : 0 ≤ ((ji8) : Int) := of_decide_eq_true am
                   have q125 : (ji8) < (l0.length : Int) := of_decide_eq_true am
                   obtain ⟨ad125, A125_2, c125_2, e125, hx125_0, hx125_1, hx125_2, hl125_2, hi125_2⟩ := at_T81 HR0.out (ji8) p125 q125
                   have hw125_2 := hx125_2
                   have hw125_1 := hx125_1
                   have hw125_0 := hx125_0
                   obtain rfl : ad122 = ad125 := (by injection e125)
                   replace hx125_0 := cw hx125_0
                   replace hx125_1 := cw hx125_1
                   replace hx125_2 := cw hx125_2
                   have HR125_2 := Aside0.mk hi125_2
                   have HC125_2 := Aside0.mk hl125_2
                   clear hi125_2 hl125_2
                   replace p125 := eq_true p125
                   replace q125 := eq_true q125
                   refine start_ (n := 20) (S := fun w' => w'.cell? ⟨gb123, 0, none⟩ = some (.string ((rd_T81 l0 x7_1).f0)) ∧ w'.cell? ⟨gb123, 1, none⟩ = some (.string ((rd_T81 l0 x7_1).f1)) ∧ w'.cell? ⟨gb123, 2, none⟩ = some (.slice A122_2 ((rd_T81 l0 x7_1).f2).length c122_2) ∧ w'.cell? (ad122.add (((ji8)).toNat * 3)) = some (.string ((rd_T81 l0 (ji8)).f0)) ∧ w'.cell? ⟨(ad122.add (((ji8)).toNat * 3)).block, (ad122.add (((ji8)).toNat * 3)).off + 1, none⟩ = some (.string ((rd_T81 l0 (ji8)).f1)) ∧ w'.cell? ⟨(ad122.add (((ji8)).toNat * 3)).block, (ad122.add (((ji8)).toNat * 3)).off + 2, none⟩ = some (.slice A125_2 ((rd_T81 l0 (ji8)).f2).length c125_2)) (ds := []) (bitsA 20 0) (by kernel_rfl) rfl rfl ⟨bc BK123 0, bc BK123 1, bc BK123 2, (cw hw125_0), (cw hw125_1), (cw hw125_2)⟩ (fun hHeld => ?_); refine with_tabW impl_StoreOk.tab4 impl_StoreOk.bits4 (fun HT_ HW_ => ?_)
                   generalize w21.drew = w22 at BK123 HB HR125_2 hx125_0 hx125_1 hx125_2 hHeld ⊢
                   refine tk 0 (some 12) (bitsA 20 1) hHeld ?_ (hy := Or.inl ⟨by rfl, by rintro w' ⟨s0, s1, s2, s3, s4, s5⟩; go_simp; with_reducible rfl⟩)
                   refine one_ (i := 1) (N := some 13) (bitsA 20 3) rfl rfl (one_of HT_.out (by kernel_rfl)) (by decide) (fun K hK => ?_)
                   refine goes_ Try.func98 (by kernel_rfl) rfl #[.agg #[.string ((rd_T81 l0 x7_1).f0), .string ((rd_T81 l0 x7_1).f1), .slice A122_2 ((rd_T81 l0 x7_1).f2).length c122_2]] (by rfl) rfl rfl mt ?_
                   with_reducible refine (impl_Series_ok.calls k1 ((rd_T81 l0 x7_1).f0) ((rd_T81 l0 x7_1).f1) _ _ ((rd_T81 l0 x7_1).f2) true _ ?side1 ?side2 A5.out).mono ?_
                   (case side1 => exact cb HR122_2)
                   (case side2 => exact HC122_2.out)
                   rintro e w23 ⟨rfl, hb⟩
                   refine ⟨_, rfl, ?_⟩
                   replace BK123 := bb BK123 hb
                   replace HB := ak (below_step (bl1 GE123) hb)
                   (try clear hb)
                   (try clear hb2)
                   (try clear hk)
                   (try clear hi)
                   refine hK.out _ _ ⟨bc BK123 0, bc BK123 1, bc BK123 2, (cw hw125_0), (cw hw125_1), (cw hw125_2)⟩ (fun hHeld => ?_)
                   clear hK K
                   refine nm ?_
                   refine pu 2 (some 14) (bitsA 20 7) ?_
                   refine pu 3 (some 15) (bitsA 20 15) ?_
                   refine pu 4 (some 16) (bitsA 20 31) ?_
                   refine pu 5 (some 17) (bitsA 20 63) ?_
                   refine pu 6 (some 18) (bitsA 20 127) ?_
                   refine pu 7 (some 19) (bitsA 20 255) ?_
                   refine pu 8 (some 20) (bitsA 20 511) ?_
                   refine pu 9 (some 21) (bitsA 20 1023) ?_
                   refine pu 10 (some 22) (bitsA 20 2047) ?_
                   refine tk 11 (some 23) (bitsA 20 4095) hHeld ?_ (hy := Or.inl ⟨by rfl, by rintro w' ⟨s0, s1, s2, s3, s4, s5⟩; go_simp; with_reducible rfl⟩)
                   refine pu 12 (some 24) (bitsA 20 8191) ?_
                   refine tk 13 (some 25) (bitsA 20 16383) hHeld ?_ (hy := Or.inl ⟨by rfl, by rintro w' ⟨s0, s1, s2, s3, s4, s5⟩; go_simp; with_reducible rfl⟩)
                   refine pu 14 (some 26) (bitsA 20 32767) ?_
                   refine tk 15 (some 27) (bitsA 20 65535) hHeld ?_ (hy := Or.inl ⟨by rfl, by rintro w' ⟨s0, s1, s2, s3, s4, s5⟩; go_simp; with_reducible rfl⟩)
                   refine one_ (i := 16) (N := some 28) (bitsA 20 131071) rfl rfl (one_of HT_.out (by kernel_rfl)) (by decide) (fun K hK => ?_)
                   refine goes_ Try.func99 (by kernel_rfl) rfl #[.agg #[.string ((rd_T81 l0 (ji8)).f0), .string ((rd_T81 l0 (ji8)).f1), .slice A125_2 ((rd_T81 l0 (ji8)).f2).length c125_2], .string ((rd_T81 l0 x7_1).f0), .string ((rd_T81 l0 x7_1).f1)] (by rfl) rfl rfl (by (try simp only [List.map_toArray, List.map_cons, List.map_nil]); first | done | (simp only [hji8]; rfl) | rfl | (simp only [List.length_drop, List.length_take]; rfl)) ?_
                   with_reducible refine (impl_Series_compare.calls k1 ((rd_T81 l0 (ji8)).f0) ((rd_T81 l0 (ji8)).f1) _ _ ((rd_T81 l0 (ji8)).f2) ((rd_T81 l0 x7_1).f0) ((rd_T81 l0 x7_1).f1) t126 _ ?side1 ?side2 A11.out).mono ?_
                   (case side1 => exact cb HR125_2)
                   (case side2 => exact HC125_2.out)
                   rintro e w24 ⟨rfl, hb⟩
                   refine ⟨_, rfl, ?_⟩
                   replace BK123 := bb BK123 hb
                   replace HB := ak (below_step (bl1 GE123) hb)
                   (try clear hb)
                   (try clear hb2)
                   (try clear hk)
                   (try clear hi)
                   refine hK.out _ _ ⟨bc BK123 0, bc BK123 1, bc BK123 2, (cw hw125_0), (cw hw125_1), (cw hw125_2)⟩ (fun hHeld => ?_)
                   clear hK K
                   refine nm ?_
                   refine pu 17 (some 29) (bitsA 20 262143) ?_
                   refine pu 18 (some 30) (bitsA 20 524287) ?_
                   refine pu 19 (some 31) (bitsA 20 1048575) ?_
                   refine done_ (done_of HT_.out (by kernel_rfl)) ?_
                   try go_wp2
                   go_roundg k1
                   case measure => have := HK1.out; omega
                   case rel => exact ⟨(wrap64 (x7_1 + 1)), es, H', ⟨kp⟩, ⟨bl1 GE123⟩⟩
               · rw [if_neg c10] at H
                 exact absurd H (by simp)
             · rw [if_neg c9] at H
               exact absurd H (by simp)
           · rw [if_neg c7] at H
             have c7b0 : decide (0 < x7_1) = false := decide_eq_false c7
             clear c7
             have H' := Aside0.mk H
             clear H
             have p122 : 0 ≤ (x7_1 : Int) := of_decide_eq_true am
             have q122 : x7_1 < (l0.length : Int) := of_decide_eq_true am
             obtain ⟨ad122, A122_2, c122_2, e122, hx122_0, hx122_1, hx122_2, hl122_2, hi122_2⟩ := at_T81 HR0.out x7_1 p122 q122
             cases e122
             replace hx122_0 := cw hx122_0
             replace hx122_1 := cw hx122_1
             replace hx122_2 := cw hx122_2
             have HR122_2 := Aside0.mk hi122_2
             have HC122_2 := Aside0.mk hl122_2
             clear hi122_2 hl122_2
             replace p122 := eq_true p122
             replace q122 := eq_true q122
             try go_wp2_with (first | ((with_reducible refine gate_dst (N := 4) rfl ?_); refine bx 4 #[.string (⟨#[]⟩ : ByteArray), .string (⟨#[]⟩ : ByteArray), .slice none 0 0] 81 ?_; intro gb123 hg w25 hbox hb; have BK123 := ak hbox; have GW123 := gs hg bl; have GE123 := gs hg bl; replace HB := ak (below_step bl hb); clear hb hbox hg; obtain ⟨hcz26_0, hcz26_1, hcz26_2, hfz26_0, hfz26_1, hfz26_2⟩ := cz3 BK123))
             have n0_ : Aside0 ((((w25.setCell ⟨gb123, 0, none⟩ (.string ((rd_T81 l0 x7_1).f0))).setCell ⟨gb123, 1, none⟩ (.string ((rd_T81 l0 x7_1).f1))).setCell ⟨gb123, 2, none⟩ (.slice A122_2 ((rd_T81 l0 x7_1).f2).length c122_2)).heap[gb123]? = some (.cells #[.string ((rd_T81 l0 x7_1).f0), .string ((rd_T81 l0 x7_1).f1), .slice A122_2 ((rd_T81 l0 x7_1).f2).length c122_2] 81 (0, 0))) := ⟨by (with_reducible repeat (first | refine blk_drewN ?_ _ | refine blk_drew ?_ | refine blk_alloc ?_ _)); refine blk_put (cs := #[.string ((rd_T81 l0 x7_1).f0), .string ((rd_T81 l0 x7_1).f1), .slice none 0 0]) ?_ 2 _ rfl; (with_reducible repeat (first | refine blk_drewN ?_ _ | refine blk_drew ?_ | refine blk_alloc ?_ _)); refine blk_put (cs := #[.string ((rd_T81 l0 x7_1).f0), .string (⟨#[]⟩ : ByteArray), .slice none 0 0]) ?_ 1 _ rfl; (with_reducible repeat (first | refine blk_drewN ?_ _ | refine blk_drew ?_ | refine blk_alloc ?_ _)); refine blk_put (cs := #[.string (⟨#[]⟩ : ByteArray), .string (⟨#[]⟩ : ByteArray), .slice none 0 0]) ?_ 0 _ rfl; (with_reducible repeat (first | refine blk_drewN ?_ _ | refine blk_drew ?_ | refine blk_alloc ?_ _)); exact BK123.out⟩
             have n1_ : Aside0 (Below w.heap.size w (((w25.setCell ⟨gb123, 0, none⟩ (.string ((rd_T81 l0 x7_1).f0))).setCell ⟨gb123, 1, none⟩ (.string ((rd_T81 l0 x7_1).f1))).setCell ⟨gb123, 2, none⟩ (.slice A122_2 ((rd_T81 l0 x7_1).f2).length c122_2))) := ⟨bl1 GE123⟩
             (try clear BK123)
             (try clear HB)
             generalize (((w25.setCell ⟨gb123, 0, none⟩ (.string ((rd_T81 l0 x7_1).f0))).setCell ⟨gb123, 1, none⟩ (.string ((rd_T81 l0 x7_1).f1))).setCell ⟨gb123, 2, none⟩ (.slice A122_2 ((rd_T81 l0 x7_1).f2).length c122_2)) = w27 at n0_ n1_ ⊢
             have BK123 := n0_
             have HB := n1_
             clear n0_ n1_
             replace BK123 := ak (blk_drew BK123.out)
             replace HB := ak (below_drew1 HB.out)
             refine start_ (n := 20) (S := fun w' => w'.cell? ⟨gb123, 0, none⟩ = some (.string ((rd_T81 l0 x7_1).f0)) ∧ w'.cell? ⟨gb123, 1, none⟩ = some (.string ((rd_T81 l0 x7_1).f1)) ∧ w'.cell? ⟨gb123, 2, none⟩ = some (.slice A122_2 ((rd_T81 l0 x7_1).f2).length c122_2)) (ds := []) (bitsA 20 0) (by kernel_rfl) rfl rfl ⟨bc BK123 0, bc BK123 1, bc BK123 2⟩ (fun hHeld => ?_); refine with_tabW impl_StoreOk.tab4 impl_StoreOk.bits4 (fun HT_ HW_ => ?_)
             generalize w27.drew = w28 at BK123 HB hHeld ⊢
             refine tk 0 (some 12) (bitsA 20 1) hHeld ?_ (hy := Or.inl ⟨by rfl, by rintro w' ⟨s0, s1, s2⟩; go_simp; with_reducible rfl⟩)
             refine one_ (i := 1) (N := some 13) (bitsA 20 3) rfl rfl (one_of HT_.out (by kernel_rfl)) (by decide) (fun K hK => ?_)
             refine goes_ Try.func98 (by kernel_rfl) rfl #[.agg #[.string ((rd_T81 l0 x7_1).f0), .string ((rd_T81 l0 x7_1).f1), .slice A122_2 ((rd_T81 l0 x7_1).f2).length c122_2]] (by rfl) rfl rfl mt ?_
             with_reducible refine (impl_Series_ok.calls k1 ((rd_T81 l0 x7_1).f0) ((rd_T81 l0 x7_1).f1) _ _ ((rd_T81 l0 x7_1).f2) true _ ?side1 ?side2 A5.out).mono ?_
             (case side1 => exact cb HR122_2)
             (case side2 => exact HC122_2.out)
             rintro e w29 ⟨rfl, hb⟩
             refine ⟨_, rfl, ?_⟩
             replace BK123 := bb BK123 hb
             replace HB := ak (below_step (bl1 GE123) hb)
             (try clear hb)
             (try clear hb2)
             (try clear hk)
             (try clear hi)
             refine hK.out _ _ ⟨bc BK123 0, bc BK123 1, bc BK123 2⟩ (fun hHeld => ?_)
             clear hK K
             refine nm ?_
             refine pu 2 (some 14) (bitsA 20 7) ?_
             refine pu 3 (some 15) (bitsA 20 15) ?_
             refine pu 4 (some 16) (bitsA 20 31) ?_
             refine pu 5 (some 17) (bitsA 20 63) ?_
             refine pu 6 (some 18) (bitsA 20 127) ?_
             refine pure_ (i := 7) (N := some 19) (v := undef) (a' := ?_) (bitsA 20 255) rfl rfl (any_of HT_.out (by kernel_rfl)) (fun _ _ _ h => h) (Or.inr ⟨by rfl, rfl⟩) ?_ ?_; rotate_left; (· (simp only [Act.put, List.setIfInBounds_toArray, List.set_cons_zero, List.set_cons_succ, i64_w, i32_w]; rfl))
             refine pure_ (i := 8) (N := some 20) (v := undef) (a' := ?_) (bitsA 20 511) rfl rfl (any_of HT_.out (by kernel_rfl)) (fun _ _ _ h => h) (Or.inr ⟨by rfl, rfl⟩) ?_ ?_; rotate_left; (· (simp only [Act.put, List.setIfInBounds_toArray, List.set_cons_zero, List.set_cons_succ, i64_w, i32_w]; rfl))
             refine pure_ (i := 9) (N := some 21) (v := undef) (a' := ?_) (bitsA 20 1023) rfl rfl (any_of HT_.out (by kernel_rfl)) (fun _ _ _ h => h) (Or.inr ⟨by rfl, rfl⟩) ?_ ?_; rotate_left; (· (simp only [Act.put, List.setIfInBounds_toArray, List.set_cons_zero, List.set_cons_succ, i64_w, i32_w]; rfl))
             refine pure_ (i := 10) (N := some 22) (v := undef) (a' := ?_) (bitsA 20 2047) rfl rfl (any_of HT_.out (by kernel_rfl)) (fun _ _ _ h => h) (Or.inr ⟨by rfl, rfl⟩) ?_ ?_; rotate_left; (· (simp only [Act.put, List.setIfInBounds_toArray, List.set_cons_zero, List.set_cons_succ, i64_w, i32_w]; rfl))
             refine pure_ (i := 11) (N := some 23) (v := undef) (a' := ?_) (bitsA 20 4095) rfl rfl (any_of HT_.out (by kernel_rfl)) (fun _ _ _ h => h) (Or.inr ⟨by rfl, rfl⟩) ?_ ?_; rotate_left; (· (simp only [Act.put, List.setIfInBounds_toArray, List.set_cons_zero, List.set_cons_succ, i64_w, i32_w]; rfl))
             refine pure_ (i := 12) (N := some 24) (v := undef) (a' := ?_) (bitsA 20 8191) rfl rfl (any_of HT_.out (by kernel_rfl)) (fun _ _ _ h => h) (Or.inr ⟨by rfl, rfl⟩) ?_ ?_; rotate_left; (· (simp only [Act.put, List.setIfInBounds_toArray, List.set_cons_zero, List.set_cons_succ, i64_w, i32_w]; rfl))
             refine pure_ (i := 13) (N := some 25) (v := undef) (a' := ?_) (bitsA 20 16383) rfl rfl (any_of HT_.out (by kernel_rfl)) (fun _ _ _ h => h) (Or.inr ⟨by rfl, rfl⟩) ?_ ?_; rotate_left; (· (simp only [Act.put, List.setIfInBounds_toArray, List.set_cons_zero, List.set_cons_succ, i64_w, i32_w]; rfl))
             refine pure_ (i := 14) (N := some 26) (v := undef) (a' := ?_) (bitsA 20 32767) rfl rfl (any_of HT_.out (by kernel_rfl)) (fun _ _ _ h => h) (Or.inr ⟨by rfl, rfl⟩) ?_ ?_; rotate_left; (· (simp only [Act.put, List.setIfInBounds_toArray, List.set_cons_zero, List.set_cons_succ, i64_w, i32_w]; rfl))
             refine pure_ (i := 15) (N := some 27) (v := undef) (a' := ?_) (bitsA 20 65535) rfl rfl (any_of HT_.out (by kernel_rfl)) (fun _ _ _ h => h) (Or.inr ⟨by rfl, rfl⟩) ?_ ?_; rotate_left; (· (simp only [Act.put, List.setIfInBounds_toArray, List.set_cons_zero, List.set_cons_succ, i64_w, i32_w]; rfl))
             refine pure_ (i := 16) (N := some 28) (v := undef) (a' := ?_) (bitsA 20 131071) rfl rfl (any_of HT_.out (by kernel_rfl)) (fun _ _ _ h => h) (Or.inr ⟨by rfl, rfl⟩) ?_ ?_; rotate_left; (· (simp only [Act.put, List.setIfInBounds_toArray, List.set_cons_zero, List.set_cons_succ, i64_w, i32_w]; rfl))
             refine pure_ (i := 17) (N := some 29) (v := undef) (a' := ?_) (bitsA 20 262143) rfl rfl (any_of HT_.out (by kernel_rfl)) (fun _ _ _ h => h) (Or.inr ⟨by rfl, rfl⟩) ?_ ?_; rotate_left; (· (simp only [Act.put, List.setIfInBounds_toArray, List.set_cons_zero, List.set_cons_succ, i64_w, i32_w]; rfl))
             refine pu 18 (some 30) (bitsA 20 524287) ?_
             refine pu 19 (some 31) (bitsA 20 1048575) ?_
             refine done_ (done_of HT_.out (by kernel_rfl)) ?_
             try go_wp2
             go_roundg k1
             case measure => have := HK1.out; omega
             case rel => exact ⟨(wrap64 (x7_1 + 1)), es, H', ⟨kp⟩, ⟨bl1 GE123⟩⟩
         · replace c6 := Bool.eq_false_iff.mpr c6
           subst c6
           replace H := iF H
           obtain rfl := Option.some.inj H
           have p122 : 0 ≤ (x7_1 : Int) := of_decide_eq_true am
           have q122 : x7_1 < (l0.length : Int) := of_decide_eq_true am
           obtain ⟨ad122, A122_2, c122_2, e122, hx122_0, hx122_1, hx122_2, hl122_2, hi122_2⟩ := at_T81 HR0.out x7_1 p122 q122
           cases e122
           replace hx122_0 := cw hx122_0
           replace hx122_1 := cw hx122_1
           replace hx122_2 := cw hx122_2
           have HR122_2 := Aside0.mk hi122_2
           have HC122_2 := Aside0.mk hl122_2
           clear hi122_2 hl122_2
           replace p122 := eq_true p122
           replace q122 := eq_true q122
           try go_wp2_with (first | ((with_reducible refine gate_dst (N := 4) rfl ?_); refine bx 4 #[.string (⟨#[]⟩ : ByteArray), .string (⟨#[]⟩ : ByteArray), .slice none 0 0] 81 ?_; intro gb123 hg w30 hbox hb; have BK123 := ak hbox; have GW123 := gs hg bl; have GE123 := gs hg bl; replace HB := ak (below_step bl hb); clear hb hbox hg; obtain ⟨hcz31_0, hcz31_1, hcz31_2, hfz31_0, hfz31_1, hfz31_2⟩ := cz3 BK123))
           have n0_ : Aside0 ((((w30.setCell ⟨gb123, 0, none⟩ (.string ((rd_T81 l0 x7_1).f0))).setCell ⟨gb123, 1, none⟩ (.string ((rd_T81 l0 x7_1).f1))).setCell ⟨gb123, 2, none⟩ (.slice A122_2 ((rd_T81 l0 x7_1).f2).length c122_2)).heap[gb123]? = some (.cells #[.string ((rd_T81 l0 x7_1).f0), .string ((rd_T81 l0 x7_1).f1), .slice A122_2 ((rd_T81 l0 x7_1).f2).length c122_2] 81 (0, 0))) := ⟨by (with_reducible repeat (first | refine blk_drewN ?_ _ | refine blk_drew ?_ | refine blk_alloc ?_ _)); refine blk_put (cs := #[.string ((rd_T81 l0 x7_1).f0), .string ((rd_T81 l0 x7_1).f1), .slice none 0 0]) ?_ 2 _ rfl; (with_reducible repeat (first | refine blk_drewN ?_ _ | refine blk_drew ?_ | refine blk_alloc ?_ _)); refine blk_put (cs := #[.string ((rd_T81 l0 x7_1).f0), .string (⟨#[]⟩ : ByteArray), .slice none 0 0]) ?_ 1 _ rfl; (with_reducible repeat (first | refine blk_drewN ?_ _ | refine blk_drew ?_ | refine blk_alloc ?_ _)); refine blk_put (cs := #[.string (⟨#[]⟩ : ByteArray), .string (⟨#[]⟩ : ByteArray), .slice none 0 0]) ?_ 0 _ rfl; (with_reducible repeat (first | refine blk_drewN ?_ _ | refine blk_drew ?_ | refine blk_alloc ?_ _)); exact BK123.out⟩
           have n1_ : Aside0 (Below w.heap.size w (((w30.setCell ⟨gb123, 0, none⟩ (.string ((rd_T81 l0 x7_1).f0))).setCell ⟨gb123, 1, none⟩ (.string ((rd_T81 l0 x7_1).f1))).setCell ⟨gb123, 2, none⟩ (.slice A122_2 ((rd_T81 l0 x7_1).f2).length c122_2))) := ⟨bl1 GE123⟩
           (try clear BK123)
           (try clear HB)
           generalize (((w30.setCell ⟨gb123, 0, none⟩ (.string ((rd_T81 l0 x7_1).f0))).setCell ⟨gb123, 1, none⟩ (.string ((rd_T81 l0 x7_1).f1))).setCell ⟨gb123, 2, none⟩ (.slice A122_2 ((rd_T81 l0 x7_1).f2).length c122_2)) = w32 at n0_ n1_ ⊢
           have BK123 := n0_
           have HB := n1_
           clear n0_ n1_
           replace BK123 := ak (blk_drew BK123.out)
           replace HB := ak (below_drew1 HB.out)
           refine start_ (n := 20) (S := fun w' => w'.cell? ⟨gb123, 0, none⟩ = some (.string ((rd_T81 l0 x7_1).f0)) ∧ w'.cell? ⟨gb123, 1, none⟩ = some (.string ((rd_T81 l0 x7_1).f1)) ∧ w'.cell? ⟨gb123, 2, none⟩ = some (.slice A122_2 ((rd_T81 l0 x7_1).f2).length c122_2)) (ds := []) (bitsA 20 0) (by kernel_rfl) rfl rfl ⟨bc BK123 0, bc BK123 1, bc BK123 2⟩ (fun hHeld => ?_); refine with_tabW impl_StoreOk.tab4 impl_StoreOk.bits4 (fun HT_ HW_ => ?_)
           generalize w32.drew = w33 at BK123 HB hHeld ⊢
           refine tk 0 (some 12) (bitsA 20 1) hHeld ?_ (hy := Or.inl ⟨by rfl, by rintro w' ⟨s0, s1, s2⟩; go_simp; with_reducible rfl⟩)
           refine one_ (i := 1) (N := some 13) (bitsA 20 3) rfl rfl (one_of HT_.out (by kernel_rfl)) (by decide) (fun K hK => ?_)
           refine goes_ Try.func98 (by kernel_rfl) rfl #[.agg #[.string ((rd_T81 l0 x7_1).f0), .string ((rd_T81 l0 x7_1).f1), .slice A122_2 ((rd_T81 l0 x7_1).f2).length c122_2]] (by rfl) rfl rfl mt ?_
           with_reducible refine (impl_Series_ok.calls k1 ((rd_T81 l0 x7_1).f0) ((rd_T81 l0 x7_1).f1) _ _ ((rd_T81 l0 x7_1).f2) false _ ?side1 ?side2 A5.out).mono ?_
           (case side1 => exact cb HR122_2)
           (case side2 => exact HC122_2.out)
           rintro e w34 ⟨rfl, hb⟩
           refine ⟨_, rfl, ?_⟩
           replace BK123 := bb BK123 hb
           replace HB := ak (below_step (bl1 GE123) hb)
           (try clear hb)
           (try clear hb2)
           (try clear hk)
           (try clear hi)
           refine hK.out _ _ ⟨bc BK123 0, bc BK123 1, bc BK123 2⟩ (fun hHeld => ?_)
           clear hK K
           refine nm ?_
           refine pu 2 (some 14) (bitsA 20 7) ?_
           refine pu 3 (some 15) (bitsA 20 15) ?_
           refine pure_ (i := 4) (N := some 16) (v := undef) (a' := ?_) (bitsA 20 31) rfl rfl (any_of HT_.out (by kernel_rfl)) (fun _ _ _ h => h) (Or.inr ⟨by rfl, rfl⟩) ?_ ?_; rotate_left; (· (simp only [Act.put, List.setIfInBounds_toArray, List.set_cons_zero, List.set_cons_succ, i64_w, i32_w]; rfl))
           refine pure_ (i := 5) (N := some 17) (v := undef) (a' := ?_) (bitsA 20 63) rfl rfl (any_of HT_.out (by kernel_rfl)) (fun _ _ _ h => h) (Or.inr ⟨by rfl, rfl⟩) ?_ ?_; rotate_left; (· (simp only [Act.put, List.setIfInBounds_toArray, List.set_cons_zero, List.set_cons_succ, i64_w, i32_w]; rfl))
           refine pure_ (i := 6) (N := some 18) (v := undef) (a' := ?_) (bitsA 20 127) rfl rfl (any_of HT_.out (by kernel_rfl)) (fun _ _ _ h => h) (Or.inr ⟨by rfl, rfl⟩) ?_ ?_; rotate_left; (· (simp only [Act.put, List.setIfInBounds_toArray, List.set_cons_zero, List.set_cons_succ, i64_w, i32_w]; rfl))
           refine pure_ (i := 7) (N := some 19) (v := undef) (a' := ?_) (bitsA 20 255) rfl rfl (any_of HT_.out (by kernel_rfl)) (fun _ _ _ h => h) (Or.inr ⟨by rfl, rfl⟩) ?_ ?_; rotate_left; (· (simp only [Act.put, List.setIfInBounds_toArray, List.set_cons_zero, List.set_cons_succ, i64_w, i32_w]; rfl))
           refine pure_ (i := 8) (N := some 20) (v := undef) (a' := ?_) (bitsA 20 511) rfl rfl (any_of HT_.out (by kernel_rfl)) (fun _ _ _ h => h) (Or.inr ⟨by rfl, rfl⟩) ?_ ?_; rotate_left; (· (simp only [Act.put, List.setIfInBounds_toArray, List.set_cons_zero, List.set_cons_succ, i64_w, i32_w]; rfl))
           refine pure_ (i := 9) (N := some 21) (v := undef) (a' := ?_) (bitsA 20 1023) rfl rfl (any_of HT_.out (by kernel_rfl)) (fun _ _ _ h => h) (Or.inr ⟨by rfl, rfl⟩) ?_ ?_; rotate_left; (· (simp only [Act.put, List.setIfInBounds_toArray, List.set_cons_zero, List.set_cons_succ, i64_w, i32_w]; rfl))
           refine pure_ (i := 10) (N := some 22) (v := undef) (a' := ?_) (bitsA 20 2047) rfl rfl (any_of HT_.out (by kernel_rfl)) (fun _ _ _ h => h) (Or.inr ⟨by rfl, rfl⟩) ?_ ?_; rotate_left; (· (simp only [Act.put, List.setIfInBounds_toArray, List.set_cons_zero, List.set_cons_succ, i64_w, i32_w]; rfl))
           refine pure_ (i := 11) (N := some 23) (v := undef) (a' := ?_) (bitsA 20 4095) rfl rfl (any_of HT_.out (by kernel_rfl)) (fun _ _ _ h => h) (Or.inr ⟨by rfl, rfl⟩) ?_ ?_; rotate_left; (· (simp only [Act.put, List.setIfInBounds_toArray, List.set_cons_zero, List.set_cons_succ, i64_w, i32_w]; rfl))
           refine pure_ (i := 12) (N := some 24) (v := undef) (a' := ?_) (bitsA 20 8191) rfl rfl (any_of HT_.out (by kernel_rfl)) (fun _ _ _ h => h) (Or.inr ⟨by rfl, rfl⟩) ?_ ?_; rotate_left; (· (simp only [Act.put, List.setIfInBounds_toArray, List.set_cons_zero, List.set_cons_succ, i64_w, i32_w]; rfl))
           refine pure_ (i := 13) (N := some 25) (v := undef) (a' := ?_) (bitsA 20 16383) rfl rfl (any_of HT_.out (by kernel_rfl)) (fun _ _ _ h => h) (Or.inr ⟨by rfl, rfl⟩) ?_ ?_; rotate_left; (· (simp only [Act.put, List.setIfInBounds_toArray, List.set_cons_zero, List.set_cons_succ, i64_w, i32_w]; rfl))
           refine pure_ (i := 14) (N := some 26) (v := undef) (a' := ?_) (bitsA 20 32767) rfl rfl (any_of HT_.out (by kernel_rfl)) (fun _ _ _ h => h) (Or.inr ⟨by rfl, rfl⟩) ?_ ?_; rotate_left; (· (simp only [Act.put, List.setIfInBounds_toArray, List.set_cons_zero, List.set_cons_succ, i64_w, i32_w]; rfl))
           refine pure_ (i := 15) (N := some 27) (v := undef) (a' := ?_) (bitsA 20 65535) rfl rfl (any_of HT_.out (by kernel_rfl)) (fun _ _ _ h => h) (Or.inr ⟨by rfl, rfl⟩) ?_ ?_; rotate_left; (· (simp only [Act.put, List.setIfInBounds_toArray, List.set_cons_zero, List.set_cons_succ, i64_w, i32_w]; rfl))
           refine pure_ (i := 16) (N := some 28) (v := undef) (a' := ?_) (bitsA 20 131071) rfl rfl (any_of HT_.out (by kernel_rfl)) (fun _ _ _ h => h) (Or.inr ⟨by rfl, rfl⟩) ?_ ?_; rotate_left; (· (simp only [Act.put, List.setIfInBounds_toArray, List.set_cons_zero, List.set_cons_succ, i64_w, i32_w]; rfl))
           refine pure_ (i := 17) (N := some 29) (v := undef) (a' := ?_) (bitsA 20 262143) rfl rfl (any_of HT_.out (by kernel_rfl)) (fun _ _ _ h => h) (Or.inr ⟨by rfl, rfl⟩) ?_ ?_; rotate_left; (· (simp only [Act.put, List.setIfInBounds_toArray, List.set_cons_zero, List.set_cons_succ, i64_w, i32_w]; rfl))
           refine pure_ (i := 18) (N := some 30) (v := undef) (a' := ?_) (bitsA 20 524287) rfl rfl (any_of HT_.out (by kernel_rfl)) (fun _ _ _ h => h) (Or.inr ⟨by rfl, rfl⟩) ?_ ?_; rotate_left; (· (simp only [Act.put, List.setIfInBounds_toArray, List.set_cons_zero, List.set_cons_succ, i64_w, i32_w]; rfl))
           refine pu 19 (some 31) (bitsA 20 1048575) ?_
           refine done_ (done_of HT_.out (by kernel_rfl)) ?_
           try go_wp2
           go_ret
           exact ⟨ew, bl1 GE123⟩
       · rw [if_neg c4] at H
         exact absurd H (by simp)
     · rw [if_neg c3] at H
       exact absurd H (by simp)
   · rw [if_neg c2] at H
     have c2b0 : decide (x7_1 < (l0.length : Int)) = false := decide_eq_false c2
     clear c2
     obtain rfl := Option.some.inj H
     go_wp2
     go_ret
     exact ⟨ew, bl⟩

end Go.Proofs.Ytplekidnlofioaa.Q
namespace Go.Proofs.Ytplekidnlofioaa.Q
open Go.RowKit Go.Proofs.YtplekidnlofioaaW.PrintWords Go.Proofs.YtplekidnlofioaaW.PrintLast Go.Proofs.YtplekidnlofioaaW.PrintMore
attribute [local go_sem] max2_int min2_int max_two min_two max_three min_three max_four min_four   -- for this text's walks alone
set_option linter.unusedVariables false
set_option linter.unusedSimpArgs false

/-! ### slices_Clone_impl_Point_impl_Point: function 66 -/
def slices_Clone_impl_Point_impl_Point.f (l0 : List (S37)) : Option ((List (S37))) := (some (([] : List (S37)) : List (S37))).bind fun y152 => (if y152.length + l0.length < 8796093022208 then (some (y152 ++ l0)) else (none))
set_option maxHeartbeats 8000000 in
set_option maxRecDepth 100000 in
theorem slices_Clone_impl_Point_impl_Point.calls_some (ad_ : Addr) (c0 : Nat) (l0 : List (S37)) (r : List (S37)) (w : World) (hr0 : Kd.C k37 w (some ad_) l0.length l0) (hc0 : l0.length ≤ c0) (h : slices_Clone_impl_Point_impl_Point.f l0 = some r) :
 Calls Try.prog 66 #[.slice (some ad_) l0.length c0] w fun e w' => ∃ v0_ : Value, e = .returned (v0_) ∧ Kd.R k37 37 w' w.heap.size (fun _ => True) v0_ r ∧ Below w.heap.size w w' := by
 have HR0 := Aside0.mk hr0
 have HC0 := Aside0.mk hc0
 clear hr0 hc0
 have HB := Aside0.mk (Below.refl w.heap.size w)
 have H : ((some (([] : List (S37)) : List (S37))).bind fun y152 => (if y152.length + l0.length < 8796093022208 then (some (y152 ++ l0)) else (none))) = some r := h
 clear h
 obtain ⟨y152, hy152⟩ : ∃ y_ : List (S37), y_ = (([] : List (S37))) := ⟨_, rfl⟩
 replace H : (if y152.length + l0.length < 8796093022208 then (some (y152 ++ l0)) else (none)) = some r := by first | (rw [hy152]; with_reducible exact H) | (have H2_ := (Option.bind_some _ _).symm.trans H; rw [hy152]; with_reducible exact H2_) | (have H2_ := (Option.bind_some _ _).symm.trans H; with_reducible exact H2_) | with_reducible exact H | (rw [hy152]; exact H) | exact H
 have Ny152 := Aside0.mk hy152
 clear hy152
 by_cases c2 : y152.length + l0.length < 8796093022208
 · rw [if_pos c2] at H
   have LMc2 := Aside0.mk c2
   clear c2
   obtain ⟨y155, hy155⟩ : ∃ y_ : List (S37), y_ = (y152 ++ l0) := ⟨_, rfl⟩
   replace H : (some y155) = some r := by first | (rw [hy155]; with_reducible exact H) | (have H2_ := (Option.bind_some _ _).symm.trans H; rw [hy155]; with_reducible exact H2_) | (have H2_ := (Option.bind_some _ _).symm.trans H; with_reducible exact H2_) | with_reducible exact H | (rw [hy155]; exact H) | exact H
   have Ny155 := Aside0.mk hy155
   clear hy155
   obtain rfl := Option.some.inj H
   have hnil := fun W : World => Lib.run_eql_slice_nil (P := Try.prog) W 31 37 (some ad_) l0.length c0 0 0 Try.underlying31
   go_enter Try.func66, Try.ntmps66
   go_wp2_with (first | ((with_reducible refine gate_dst (N := 5) rfl ?_); refine Kd.R_lit k37 _ 37 ?hg (N := 5) ?hd (xs := ([] : List (S37))) (inner := []) (ok := fun _ => True) (okp := fun _ => True) ?hr ?hp (fun _ hk => hk) trivial (Below.refl _ _) (Nat.le_refl _) (by simp) ?_; (case hd => rfl); (case hg => rfl); (case hr => first | (go_simp; done) | (go_simp; rfl)); (case hp => exact (Reps.none _ _)); intro v153 w3 ho4 hb hg_ hnew_; clear hg_ hnew_; (first | rw [← Ny152.out] at ho4 | (simp only [Int.reduceToNat] at ho4; rw [← Ny152.out] at ho4)); have HO154 := ak (Kd.R_lower ho4 (below_size bl)); replace HB := ak (below_step bl hb); clear hb ho4) | ((with_reducible refine gate_builtin (b := .append) (xs := #[.tmp 5, .tmp 6]) rfl ?_); at_builtin; refine Kd.R_append_rows k37 (w0 := w) w.heap.size rfl (.tmp 5) (.tmp 6) 31 37 (.agg #[(.int .i64 0), (.int .i64 0)]) 16 rfl Try.underlying31 info37 rfl (by decide) (by omega) v153 y152 l0 _ _ _ (fun _ => True) (fun _ => False) rfl rfl ?aO ?aR (fun _ _ h => h) (fun _ h => h.elim) ?aF ?aB ?aS ?aL ?_; (case aR => exact cb HR0); (case aB => exact bl); (case aF => exact (fun _ _ => trivial)); (case aO => exact (kr HO154)); (case aS => exact (below_size bl)); (case aL => have := LMc2.out; omega); intro v156 w5 ho hb hg hat; rw [← Ny155.out] at ho; replace HB := ak hb; have HO157 := ak ho; clear HO154; clear ho hb hg hat))
   go_ret
   exact ⟨_, ew, kr HO157, bl⟩
 · rw [if_neg c2] at H
   exact absurd H (by simp)
set_option maxHeartbeats 8000000 in
set_option maxRecDepth 100000 in
theorem slices_Clone_impl_Point_impl_Point.calls_nil (c0 : Nat) (r : List (S37)) (w : World) (h : slices_Clone_impl_Point_impl_Point.f [] = some r) :
 Calls Try.prog 66 #[.slice none 0 c0] w fun e w' => ∃ v0_ : Value, e = .returned (v0_) ∧ Kd.R k37 37 w' w.heap.size (fun _ => True) v0_ r ∧ Below w.heap.size w w' := by
 obtain rfl : r = [] := by have h_ := h; simp [slices_Clone_impl_Point_impl_Point.f] at h_; first | exact h_ | exact h_.symm
 have hnil := fun W : World => Lib.run_eql_slice_nil (P := Try.prog) W 31 37 none 0 c0 0 0 Try.underlying31
 go_enter Try.func66, Try.ntmps66
 go_wp2
 go_ret
 exact ⟨_, rfl, Kd.R_nil _ _ _ _ _, Below.refl _ _⟩
theorem slices_Clone_impl_Point_impl_Point.calls (A0 : Option Addr) (c0 : Nat) (l0 : List (S37)) (r : List (S37)) (w : World) (hr0 : Kd.C k37 w A0 l0.length l0) (hc0 : l0.length ≤ c0) (h : slices_Clone_impl_Point_impl_Point.f l0 = some r) :
 Calls Try.prog 66 #[.slice A0 l0.length c0] w fun e w' => ∃ v0_ : Value, e = .returned (v0_) ∧ Kd.R k37 37 w' w.heap.size (fun _ => True) v0_ r ∧ Below w.heap.size w w' := by
 cases A0 with
 | none =>
  obtain rfl : l0 = [] := by
   rcases l0 with _ | ⟨x_, xs_⟩
   · rfl
   · obtain ⟨ad_, _, e_, _⟩ := Kd.C_get hr0 x_ 0 (by decide) (by simp)
     cases e_
  exact slices_Clone_impl_Point_impl_Point.calls_nil c0 r w h
 | some ad_ => exact slices_Clone_impl_Point_impl_Point.calls_some ad_ c0 l0 r w hr0 hc0 h

end Go.Proofs.Ytplekidnlofioaa.Q
namespace Go.Proofs.Ytplekidnlofioaa.Q
open Go.RowKit Go.Proofs.YtplekidnlofioaaW.PrintWords Go.Proofs.YtplekidnlofioaaW.PrintLast Go.Proofs.YtplekidnlofioaaW.PrintMore
attribute [local go_sem] max2_int min2_int max_two min_two max_three min_three max_four min_four   -- for this text's walks alone
set_option linter.unusedVariables false
set_option linter.unusedSimpArgs false

/-! ### impl_pointsOf: function 67 -/
def impl_pointsOf.l0 : Nat → ByteArray → ByteArray → List (S81) → Int → Int → Option ((List (S37)))
 | 0, _, _, _, _, _ => none
 | k + 1, x1, x2, x9, x10, x11 => if x11 < x10 then (if 0 ≤ x11 then (if x11 < (x9.length : Int) then (if ((rd_T81 x9 x11).f0).toList = x1.toList then (if ((rd_T81 x9 x11).f1).toList = x2.toList then (some ((rd_T81 x9 x11).f2)) else (impl_pointsOf.l0 k x1 x2 x9 x10 (wrap64 (x11 + 1)))) else (impl_pointsOf.l0 k x1 x2 x9 x10 (wrap64 (x11 + 1)))) else (none)) else (none)) else (some ([] : List (S37)))
def impl_pointsOf.f (k : Nat) (l0 : List (S81)) (a1 : ByteArray) (a2 : ByteArray) : Option ((List (S37))) := impl_pointsOf.l0 k a1 a2 l0 (l0.length : Int) 0
theorem impl_pointsOf.mono_l : ∀ k, (∀ y0 y1 y2 y3 y4, LeO (impl_pointsOf.l0 k y0 y1 y2 y3 y4) (impl_pointsOf.l0 (k + 1) y0 y1 y2 y3 y4))
 | 0 => fun _ _ _ _ _ r h => by simp [impl_pointsOf.l0] at h
 | k + 1 => by
  have ih0 := impl_pointsOf.mono_l k
  · intro y0 y1 y2 y3 y4
    unfold impl_pointsOf.l0
    repeat' first
    | (with_reducible exact ih0 _ _ _ _ _)
    | (with_reducible exact LeO.refl _)
    | (with_reducible exact LeO.none _)
    | (with_reducible refine LeO.ite ?_ ?_)
    | (with_reducible refine LeO.bind ?_ (fun _ => ?_))
    | exact ih0 _ _ _ _ _
    | exact LeO.none _
    | refine LeO.ite ?_ ?_
    | refine LeO.bind ?_ (fun _ => ?_)
theorem impl_pointsOf.mono : ∀ a0 a1 a2 k, LeO (impl_pointsOf.f k a0 a1 a2) (impl_pointsOf.f (k + 1) a0 a1 a2) := by
 intro a0 a1 a2 k
 have ih0 := impl_pointsOf.mono_l k
 unfold impl_pointsOf.f
 repeat' first
  | (with_reducible exact ih0 _ _ _ _ _)
  | (with_reducible exact LeO.refl _)
  | (with_reducible exact LeO.none _)
  | (with_reducible refine LeO.ite ?_ ?_)
  | (with_reducible refine LeO.bind ?_ (fun _ => ?_))
  | exact ih0 _ _ _ _ _
  | exact LeO.none _
  | refine LeO.ite ?_ ?_
  | refine LeO.bind ?_ (fun _ => ?_)
set_option maxHeartbeats 8000000 in
set_option maxRecDepth 100000 in
theorem impl_pointsOf.calls (k : Nat) (P0_ : Nat → Prop) (A0 : Option Addr) (c0 : Nat) (l0 : List (S81)) (a1 : ByteArray) (a2 : ByteArray) (r : List (S37)) (w : World) (hs0 : Kd.V k81 81 w w.heap.size (fun k_ => P0_ k_) (.slice A0 l0.length c0) l0) (h : impl_pointsOf.f k l0 a1 a2 = some r) :
 Calls Try.prog 67 #[.slice A0 l0.length c0, .string a1, .string a2] w fun e w' => ∃ v0_ : Value, e = .returned (v0_) ∧ Kd.V k37 37 w' w.heap.size (fun k_ => (P0_ k_ ∨ w.heap.size ≤ k_)) v0_ r ∧ Below w.heap.size w w' := by
 have hu81 := Try.underlying81
 have HO0 := Aside0.mk (show Kd.V k81 81 w w.heap.size (fun k_ => (P0_ k_ ∨ w.heap.size ≤ k_)) (.slice A0 l0.length c0) l0 from Kd.V_mono hs0 (fun k_ hk => .inl hk))
 have HB := Aside0.mk (Below.refl w.heap.size w)
 have H : (impl_pointsOf.l0 k a1 a2 l0 (l0.length : Int) 0) = some r := h
 clear h
 have H' := Aside0.mk H
 clear H
 go_enter Try.func67, Try.ntmps67
 go_wp2
 go_loopg [11] k (fun kq v11 w' => ∃ (x11_1 : Int), v11 = .int .i64 x11_1 ∧ Aside0 (impl_pointsOf.l0 kq a1 a2 l0 (l0.length : Int) x11_1 = some r) ∧ Aside0 (kq ≤ k) ∧ Aside0 (Kd.V k81 81 w' w.heap.size (fun k_ => (P0_ k_ ∨ w.heap.size ≤ k_)) (.slice A0 l0.length c0) l0) ∧ Aside0 (Below w.heap.size w w'))
 case atStart => exact ⟨(0), es, H', ⟨Nat.le_refl _⟩, ⟨by (with_reducible repeat (first | apply Kd.V_alloc | apply Kd.V_drewN | apply Kd.V_drew)); exact HO0.out⟩, ⟨bl⟩⟩
 case round =>
  clear H'
  try clear p2
  obtain ⟨x11_1, rfl, HA, HK1, HO_9, HB⟩ := hrel
  cases gk with
  | zero => exact absurd HA.out (by simp [impl_pointsOf.l0])
  | succ k1 =>
   have H := HA.out
   clear HA
   simp only [impl_pointsOf.l0] at H
   by_cases c4 : x11_1 < (l0.length : Int)
   · rw [if_pos c4] at H
     have c4b0 : decide (x11_1 < (l0.length : Int)) = true := decide_eq_true c4
     clear c4
     by_cases c5 : 0 ≤ x11_1
     · rw [if_pos c5] at H
       have c5b0 : decide (0 ≤ x11_1) = true := decide_eq_true c5
       clear c5
       by_cases c6 : x11_1 < (l0.length : Int)
       · rw [if_pos c6] at H
         have c6b0 : decide (x11_1 < (l0.length : Int)) = true := decide_eq_true c6
         clear c6
         by_cases c7 : ((rd_T81 l0 x11_1).f0).toList = a1.toList
         · rw [if_pos c7] at H
           have c7b0 : (((rd_T81 l0 x11_1).f0).toList == a1.toList) = true := beq_iff_eq.mpr c7
           have c7b1 : (((rd_T81 l0 x11_1).f0).toList != a1.toList) = false := bne_eq_false_iff_eq.mpr c7
           clear c7
           by_cases c8 : ((rd_T81 l0 x11_1).f1).toList = a2.toList
           · rw [if_pos c8] at H
             have c8b0 : (((rd_T81 l0 x11_1).f1).toList == a2.toList) = true := beq_iff_eq.mpr c8
             have c8b1 : (((rd_T81 l0 x11_1).f1).toList != a2.toList) = false := bne_eq_false_iff_eq.mpr c8
             clear c8
             obtain rfl := Option.some.inj H
             have p170 : 0 ≤ (x11_1 : Int) := of_decide_eq_true am
             have q170 : x11_1 < (l0.length : Int) := of_decide_eq_true am
             obtain ⟨ad170, A170_2, c170_2, e170, hx170_0, hx170_1, hx170_2, hl170_2, hi170_2⟩ := at_T81 (Kd.V_reads' HO_9.out).2.2 x11_1 p170 q170
             cases e170
             obtain ⟨ce170, hce170, hMe170, hcc170⟩ := Kd.V_get HO_9.out z81 x11_1 p170 (by first | exact q170 | exact of_decide_eq_true am | (have e_ := (Kd.V_reads' HO_9.out).1; omega))
             obtain ⟨ua170_2, uc170_2, rfl, ul170_2, ge170_2⟩ := k81_openF hMe170
             have hv170_2 := hcc170 2 _ rfl
             rw [add_field _ _ 2 (by omega)] at hv170_2
             replace hv170_2 := Option.some.inj (hv170_2.symm.trans hx170_2)
             injection hv170_2 with hva_ hvn_ hvc_
             rw [hva_] at ge170_2
             rw [hvc_] at ul170_2
             have HL170_2 := Aside0.mk (show Kd.V k37 37 _ w.heap.size _ _ ((rd_T81 l0 x11_1).f2) from Kd.V_mk ul170_2 ge170_2)
             clear hva_ hvn_ hvc_ ge170_2 ul170_2
             clear hcc170 hce170
             have HR170_2 := Aside0.mk hi170_2
             have HC170_2 := Aside0.mk hl170_2
             clear hi170_2 hl170_2
             replace p170 := eq_true p170
             replace q170 := eq_true q170
             go_wp2_with (first | ((with_reducible refine gate_dst (N := 8) rfl ?_); refine bx 8 #[.string (⟨#[]⟩ : ByteArray), .string (⟨#[]⟩ : ByteArray), .slice none 0 0] 81 ?_; intro gb171 hg w9 hbox hb; replace HO_9 := ak (Kd.V_below (Kd.V_elderB (by (with_reducible repeat (first | apply Kd.V_alloc | apply Kd.V_drewN | apply Kd.V_drew)); exact HO_9.out) gb171 (Nat.le_of_eq hg.symm)) hb); replace HL170_2 := ak (Kd.V_below (Kd.V_elderB (by (with_reducible repeat (first | apply Kd.V_alloc | apply Kd.V_drewN | apply Kd.V_drew)); exact HL170_2.out) gb171 (Nat.le_of_eq hg.symm)) hb); replace HR170_2 := ak (Kd.C_below (by repeat (first | (with_reducible exact HR170_2.out) | (with_reducible refine Kd.C_alloc ?_ _) | (with_reducible refine Kd.C_drewN ?_ _) | (with_reducible refine Kd.C_drew ?_) | exact HR170_2.out)) hb); have BK171 := ak hbox; have GW171 := gs hg bl; have GE171 := gs hg bl; replace HB := ak (below_step bl hb); clear hb hbox hg; obtain ⟨hcz10_0, hcz10_1, hcz10_2, hfz10_0, hfz10_1, hfz10_2⟩ := cz3 BK171))
             go_ret
             exact ⟨_, ew, by (with_reducible repeat (first | apply Kd.V_alloc | apply Kd.V_drewN | apply Kd.V_drew)); exact Kd.V_mono (Kd.V_far (p := ⟨gb171, 2, none⟩) (Kd.V_far (p := ⟨gb171, 1, none⟩) (Kd.V_far (p := ⟨gb171, 0, none⟩) (Kd.V_mono HL170_2.out (fun k_ hk => (⟨hk, hk.2⟩ : _ ∧ k_ ≠ gb171))) (fun _ hk => hk.2) (.string ((rd_T81 l0 x11_1).f0))) (fun _ hk => hk.2) (.string ((rd_T81 l0 x11_1).f1))) (fun _ hk => hk.2) (.slice A170_2 ((rd_T81 l0 x11_1).f2).length c170_2)) (fun _ hk => hk.1.1), bl1 GE171⟩
           · rw [if_neg c8] at H
             have c8b0 : (((rd_T81 l0 x11_1).f1).toList == a2.toList) = false := beq_eq_false_iff_ne.mpr c8
             have c8b1 : (((rd_T81 l0 x11_1).f1).toList != a2.toList) = true := bne_iff_ne.mpr c8
             have H' := Aside0.mk H
             clear H
             have p170 : 0 ≤ (x11_1 : Int) := of_decide_eq_true am
             have q170 : x11_1 < (l0.length : Int) := of_decide_eq_true am
             obtain ⟨ad170, A170_2, c170_2, e170, hx170_0, hx170_1, hx170_2, hl170_2, hi170_2⟩ := at_T81 (Kd.V_reads' HO_9.out).2.2 x11_1 p170 q170
             cases e170
             obtain ⟨ce170, hce170, hMe170, hcc170⟩ := Kd.V_get HO_9.out z81 x11_1 p170 (by first | exact q170 | exact of_decide_eq_true am | (have e_ := (Kd.V_reads' HO_9.out).1; omega))
             obtain ⟨ua170_2, uc170_2, rfl, ul170_2, ge170_2⟩ := k81_openF hMe170
             have hv170_2 := hcc170 2 _ rfl
             rw [add_field _ _ 2 (by omega)] at hv170_2
             replace hv170_2 := Option.some.inj (hv170_2.symm.trans hx170_2)
             injection hv170_2 with hva_ hvn_ hvc_
             rw [hva_] at ge170_2
             rw [hvc_] at ul170_2
             have HL170_2 := Aside0.mk (show Kd.V k37 37 _ w.heap.size _ _ ((rd_T81 l0 x11_1).f2) from Kd.V_mk ul170_2 ge170_2)
             clear hva_ hvn_ hvc_ ge170_2 ul170_2
             clear hcc170 hce170
             have HR170_2 := Aside0.mk hi170_2
             have HC170_2 := Aside0.mk hl170_2
             clear hi170_2 hl170_2
             replace p170 := eq_true p170
             replace q170 := eq_true q170
             go_wp2_with (first | ((with_reducible refine gate_dst (N := 8) rfl ?_); refine bx 8 #[.string (⟨#[]⟩ : ByteArray), .string (⟨#[]⟩ : ByteArray), .slice none 0 0] 81 ?_; intro gb171 hg w11 hbox hb; replace HO_9 := ak (Kd.V_below (Kd.V_elderB (by (with_reducible repeat (first | apply Kd.V_alloc | apply Kd.V_drewN | apply Kd.V_drew)); exact HO_9.out) gb171 (Nat.le_of_eq hg.symm)) hb); replace HL170_2 := ak (Kd.V_below (Kd.V_elderB (by (with_reducible repeat (first | apply Kd.V_alloc | apply Kd.V_drewN | apply Kd.V_drew)); exact HL170_2.out) gb171 (Nat.le_of_eq hg.symm)) hb); replace HR170_2 := ak (Kd.C_below (by repeat (first | (with_reducible exact HR170_2.out) | (with_reducible refine Kd.C_alloc ?_ _) | (with_reducible refine Kd.C_drewN ?_ _) | (with_reducible refine Kd.C_drew ?_) | exact HR170_2.out)) hb); have BK171 := ak hbox; have GW171 := gs hg bl; have GE171 := gs hg bl; replace HB := ak (below_step bl hb); clear hb hbox hg; obtain ⟨hcz12_0, hcz12_1, hcz12_2, hfz12_0, hfz12_1, hfz12_2⟩ := cz3 BK171))
             go_roundg k1
             case measure => have := HK1.out; omega
             case rel => exact ⟨(wrap64 (x11_1 + 1)), es, H', ⟨kp⟩, ⟨by (with_reducible repeat (first | apply Kd.V_alloc | apply Kd.V_drewN | apply Kd.V_drew)); exact Kd.V_mono (Kd.V_far (p := ⟨gb171, 2, none⟩) (Kd.V_far (p := ⟨gb171, 1, none⟩) (Kd.V_far (p := ⟨gb171, 0, none⟩) (Kd.V_mono HO_9.out (fun k_ hk => (⟨hk, hk.2⟩ : _ ∧ k_ ≠ gb171))) (fun _ hk => hk.2) (.string ((rd_T81 l0 x11_1).f0))) (fun _ hk => hk.2) (.string ((rd_T81 l0 x11_1).f1))) (fun _ hk => hk.2) (.slice A170_2 ((rd_T81 l0 x11_1).f2).length c170_2)) (fun _ hk => hk.1.1)⟩, ⟨bl1 GE171⟩⟩
         · rw [if_neg c7] at H
           have c7b0 : (((rd_T81 l0 x11_1).f0).toList == a1.toList) = false := beq_eq_false_iff_ne.mpr c7
           have c7b1 : (((rd_T81 l0 x11_1).f0).toList != a1.toList) = true := bne_iff_ne.mpr c7
           have H' := Aside0.mk H
           clear H
           have p170 : 0 ≤ (x11_1 : Int) := of_decide_eq_true am
           have q170 : x11_1 < (l0.length : Int) := of_decide_eq_true am
           obtain ⟨ad170, A170_2, c170_2, e170, hx170_0, hx170_1, hx170_2, hl170_2, hi170_2⟩ := at_T81 (Kd.V_reads' HO_9.out).2.2 x11_1 p170 q170
           cases e170
           obtain ⟨ce170, hce170, hMe170, hcc170⟩ := Kd.V_get HO_9.out z81 x11_1 p170 (by first | exact q170 | exact of_decide_eq_true am | (have e_ := (Kd.V_reads' HO_9.out).1; omega))
           obtain ⟨ua170_2, uc170_2, rfl, ul170_2, ge170_2⟩ := k81_openF hMe170
           have hv170_2 := hcc170 2 _ rfl
           rw [add_field _ _ 2 (by omega)] at hv170_2
           replace hv170_2 := Option.some.inj (hv170_2.symm.trans hx170_2)
           injection hv170_2 with hva_ hvn_ hvc_
           rw [hva_] at ge170_2
           rw [hvc_] at ul170_2
           have HL170_2 := Aside0.mk (show Kd.V k37 37 _ w.heap.size _ _ ((rd_T81 l0 x11_1).f2) from Kd.V_mk ul170_2 ge170_2)
           clear hva_ hvn_ hvc_ ge170_2 ul170_2
           clear hcc170 hce170
           have HR170_2 := Aside0.mk hi170_2
           have HC170_2 := Aside0.mk hl170_2
           clear hi170_2 hl170_2
           replace p170 := eq_true p170
           replace q170 := eq_true q170
           go_wp2_with (first | ((with_reducible refine gate_dst (N := 8) rfl ?_); refine bx 8 #[.string (⟨#[]⟩ : ByteArray), .string (⟨#[]⟩ : ByteArray), .slice none 0 0] 81 ?_; intro gb171 hg w13 hbox hb; replace HO_9 := ak (Kd.V_below (Kd.V_elderB (by (with_reducible repeat (first | apply Kd.V_alloc | apply Kd.V_drewN | apply Kd.V_drew)); exact HO_9.out) gb171 (Nat.le_of_eq hg.symm)) hb); replace HL170_2 := ak (Kd.V_below (Kd.V_elderB (by (with_reducible repeat (first | apply Kd.V_alloc | apply Kd.V_drewN | apply Kd.V_drew)); exact HL170_2.out) gb171 (Nat.le_of_eq hg.symm)) hb); replace HR170_2 := ak (Kd.C_below (by repeat (first | (with_reducible exact HR170_2.out) | (with_reducible refine Kd.C_alloc ?_ _) | (with_reducible refine Kd.C_drewN ?_ _) | (with_reducible refine Kd.C_drew ?_) | exact HR170_2.out)) hb); have BK171 := ak hbox; have GW171 := gs hg bl; have GE171 := gs hg bl; replace HB := ak (below_step bl hb); clear hb hbox hg; obtain ⟨hcz14_0, hcz14_1, hcz14_2, hfz14_0, hfz14_1, hfz14_2⟩ := cz3 BK171))
           go_roundg k1
           case measure => have := HK1.out; omega
           case rel => exact ⟨(wrap64 (x11_1 + 1)), es, H', ⟨kp⟩, ⟨by (with_reducible repeat (first | apply Kd.V_alloc | apply Kd.V_drewN | apply Kd.V_drew)); exact Kd.V_mono (Kd.V_far (p := ⟨gb171, 2, none⟩) (Kd.V_far (p := ⟨gb171, 1, none⟩) (Kd.V_far (p := ⟨gb171, 0, none⟩) (Kd.V_mono HO_9.out (fun k_ hk => (⟨hk, hk.2⟩ : _ ∧ k_ ≠ gb171))) (fun _ hk => hk.2) (.string ((rd_T81 l0 x11_1).f0))) (fun _ hk => hk.2) (.string ((rd_T81 l0 x11_1).f1))) (fun _ hk => hk.2) (.slice A170_2 ((rd_T81 l0 x11_1).f2).length c170_2)) (fun _ hk => hk.1.1)⟩, ⟨bl1 GE171⟩⟩
       · rw [if_neg c6] at H
         exact absurd H (by simp)
     · rw [if_neg c5] at H
       exact absurd H (by simp)
   · rw [if_neg c4] at H
     have c4b0 : decide (x11_1 < (l0.length : Int)) = false := decide_eq_false c4
     clear c4
     obtain rfl := Option.some.inj H
     go_wp2
     go_ret
     exact ⟨.slice none 0 0, ew, Kd.V_nil _ _ _ _ _, bl⟩

end Go.Proofs.Ytplekidnlofioaa.Q
namespace Go.Proofs.Ytplekidnlofioaa.Q
open Go.RowKit Go.Proofs.YtplekidnlofioaaW.PrintWords Go.Proofs.YtplekidnlofioaaW.PrintLast Go.Proofs.YtplekidnlofioaaW.PrintMore
attribute [local go_sem] max2_int min2_int max_two min_two max_three min_three max_four min_four   -- for this text's walks alone
set_option linter.unusedVariables false
set_option linter.unusedSimpArgs false

/-! ### impl_SeriesOf: function 15 -/
def impl_SeriesOf.f (k : Nat) (l0 : List (S81)) (a1 : ByteArray) (a2 : ByteArray) : Option ((List (S37)) × Bool) := (impl_StoreOk.f k l0).bind fun t172 => (if t172 = true then ((impl_pointsOf.f k l0 a1 a2).bind fun t173 => ((slices_Clone_impl_Point_impl_Point.f t173).bind fun t176 => (some (t176, decide ((t176.length : Int) > 0))))) else (some (([] : List (S37)), false)))
theorem impl_SeriesOf.mono : ∀ a0 a1 a2 k, LeO (impl_SeriesOf.f k a0 a1 a2) (impl_SeriesOf.f (k + 1) a0 a1 a2) := by
 intro a0 a1 a2 k
 unfold impl_SeriesOf.f
 repeat' first
  | (with_reducible exact impl_StoreOk.mono _ _)
  | (with_reducible exact impl_pointsOf.mono _ _ _ _)
  | (with_reducible exact LeO.refl _)
  | (with_reducible exact LeO.none _)
  | (with_reducible refine LeO.ite ?_ ?_)
  | (with_reducible refine LeO.bind ?_ (fun _ => ?_))
  | exact impl_StoreOk.mono _ _
  | exact impl_pointsOf.mono _ _ _ _
  | exact LeO.none _
  | refine LeO.ite ?_ ?_
  | refine LeO.bind ?_ (fun _ => ?_)
set_option maxHeartbeats 8000000 in
set_option maxRecDepth 100000 in
theorem impl_SeriesOf.calls (k : Nat) (A0 : Option Addr) (c0 : Nat) (l0 : List (S81)) (a1 : ByteArray) (a2 : ByteArray) (r1 : List (S37)) (r2 : Bool) (w : World) (hr0 : Kd.C k81 w A0 l0.length l0) (hc0 : l0.length ≤ c0) (h : impl_SeriesOf.f k l0 a1 a2 = some (r1, r2)) :
 Calls Try.prog 15 #[.slice A0 l0.length c0, .string a1, .string a2] w fun e w' => ∃ v0_ : Value, e = .returned (.tuple #[v0_, .bool r2]) ∧ Kd.R k37 37 w' w.heap.size (fun _ => True) v0_ r1 ∧ Below w.heap.size w w' := by
 have HR0 := Aside0.mk hr0
 have HC0 := Aside0.mk hc0
 clear hr0 hc0
 have HB := Aside0.mk (Below.refl w.heap.size w)
 have H : ((impl_StoreOk.f k l0).bind fun t172 => (if t172 = true then ((impl_pointsOf.f k l0 a1 a2).bind fun t173 => ((slices_Clone_impl_Point_impl_Point.f t173).bind fun t176 => (some (t176, decide ((t176.length : Int) > 0))))) else (some (([] : List (S37)), false)))) = some (r1, r2) := h
 clear h
 obtain ⟨t172, A40, H⟩ := bo H
 have A4 := Aside0.mk A40
 clear A40
 by_cases c5 : t172 = true
 · subst c5
   replace H := iT H
   obtain ⟨t173, A60, H⟩ := bo H
   have A6 := Aside0.mk A60
   clear A60
   obtain ⟨t176, A70, H⟩ := bo H
   have A7 := Aside0.mk A70
   clear A70
   simp only [Option.some.injEq, Prod.mk.injEq] at H
   obtain ⟨rfl, rfl⟩ := H
   go_enter Try.func15, Try.ntmps15
   go_wp2_with (first | ((with_reducible refine gate_callee (f := 49) rfl ?_); refine gl (some 10) Try.func49 #[.slice A0 l0.length c0] ?_; (with_reducible refine (impl_StoreOk.calls k _ _ l0 true _ ?side1 ?side2 A4.out).mono ?_); (case side1 => repeat (first | exact HR0.out | (with_reducible refine Kd.C_alloc ?_ _) | (with_reducible refine Kd.C_drewN ?_ _) | (with_reducible refine Kd.C_drew ?_))); (case side2 => exact HC0.out); rintro e w8 ⟨rfl, hb⟩; refine ⟨_, rfl, ?_⟩; replace HB := ak (below_step bl hb); (try clear hb); (try clear hb2); (try clear hk); (try clear hi)) | ((with_reducible refine gate_callee (f := 67) rfl ?_); refine gl (some 15) Try.func67 #[.slice A0 l0.length c0, .string a1, .string a2] ?_; (with_reducible refine (impl_pointsOf.calls k (fun k_ => k_ < w.heap.size) _ _ l0 a1 a2 t173 _ ?side1 A6.out).mono ?_); (case side1 => exact Kd.V_mk HC0.out (Kd.F_below (Kd.C_F k81_heap HR0.out) bl)); rintro e w9 ⟨v174, rfl, ho0, hb⟩; refine ⟨_, rfl, ?_⟩; have HO175 := ak (Kd.V_lower (Kd.V_mono (ok' := fun k_ => True) ho0 (fun k_ hk_ => trivial)) (below_size bl)); replace HB := ak (below_step bl hb); (try clear hb); (try clear hb2); (try clear hk); (try clear hi); (try clear ho0); obtain ⟨Ao10, co10, eo10⟩ := Kd.V_slice HO175.out; subst eo10) | ((with_reducible refine gate_callee (f := 66) rfl ?_); refine gl (some 16) Try.func66 #[.slice Ao10 t173.length co10] ?_; (with_reducible refine (slices_Clone_impl_Point_impl_Point.calls _ _ t173 t176 _ ?side1 ?side2 A7.out).mono ?_); (case side1 => repeat (first | exact (Kd.V_reads' HO175.out).2.2 | (with_reducible refine Kd.C_alloc ?_ _) | (with_reducible refine Kd.C_drewN ?_ _) | (with_reducible refine Kd.C_drew ?_))); (case side2 => exact (Kd.V_reads' HO175.out).2.1); rintro e w11 ⟨v177, rfl, ho0, hb⟩; refine ⟨_, rfl, ?_⟩; replace HO175 := ak (Kd.V_elder' (by (with_reducible repeat (first | apply Kd.V_alloc | apply Kd.V_drewN | apply Kd.V_drew)); exact HO175.out) (Kd.R_base ho0) hb); have HO178 := ak (Kd.R_lower ho0 (below_size bl)); replace HB := ak (below_step bl hb); (try clear hb); (try clear hb2); (try clear hk); (try clear hi); (try clear ho0); obtain ⟨Ao12, co12, eo12⟩ := Kd.R_slice HO178.out; subst eo12))
   go_ret2
   exact ⟨_, ew, kr HO178, bl⟩
 · replace c5 := Bool.eq_false_iff.mpr c5
   subst c5
   replace H := iF H
   simp only [Option.some.injEq, Prod.mk.injEq] at H
   obtain ⟨rfl, rfl⟩ := H
   go_enter Try.func15, Try.ntmps15
   go_wp2_with (first | ((with_reducible refine gate_callee (f := 49) rfl ?_); refine gl (some 10) Try.func49 #[.slice A0 l0.length c0] ?_; (with_reducible refine (impl_StoreOk.calls k _ _ l0 false _ ?side1 ?side2 A4.out).mono ?_); (case side1 => repeat (first | exact HR0.out | (with_reducible refine Kd.C_alloc ?_ _) | (with_reducible refine Kd.C_drewN ?_ _) | (with_reducible refine Kd.C_drew ?_))); (case side2 => exact HC0.out); rintro e w13 ⟨rfl, hb⟩; refine ⟨_, rfl, ?_⟩; replace HB := ak (below_step bl hb); (try clear hb); (try clear hb2); (try clear hk); (try clear hi)))
   go_ret2
   exact ⟨_, ew, by first | exact Kd.R_nil _ _ _ _ _ | exact Kd.N_nil _ _ _ _ _ | exact Kd.V_nil _ _ _ _ _ | exact Kd.Q_nil _ _ _ _ _ | exact Kd.S_nil _ _ _ _ _, bl⟩

end Go.Proofs.Ytplekidnlofioaa.Q
namespace Go.Proofs.Ytplekidnlofioaa.Q
open Go.RowKit Go.Proofs.YtplekidnlofioaaW.PrintWords Go.Proofs.YtplekidnlofioaaW.PrintLast Go.Proofs.YtplekidnlofioaaW.PrintMore
attribute [local go_sem] max2_int min2_int max_two min_two max_three min_three max_four min_four   -- for this text's walks alone
set_option linter.unusedVariables false
set_option linter.unusedSimpArgs false

/-! ### impl_isValue: function 159 -/
def impl_isValue.f (a0 : Int) : Option (Bool) := (impl_in.f a0 (-1000000000) 1000000000).bind fun t851 => (some t851)
set_option maxHeartbeats 8000000 in
set_option maxRecDepth 100000 in
theorem impl_isValue.calls (a0 : Int) (r : Bool) (w : World) (h : impl_isValue.f a0 = some r) :
 Calls Try.prog 159 #[.int .i64 a0] w fun e w' => e = .returned (.bool r) ∧ Drawn0 w w' := by
 have H : ((impl_in.f a0 (-1000000000) 1000000000).bind fun t851 => (some t851)) = some r := h
 clear h
 obtain ⟨t851, A20, H⟩ := bo H
 have A2 := Aside0.mk A20
 clear A20
 obtain rfl := Option.some.inj H
 go_enter Try.func159, Try.ntmps159
 go_wp2_with (first | ((with_reducible refine gate_callee (f := 124) rfl ?_); refine gl (some 4) Try.func124 #[.int .i64 a0, .int .i64 (-1000000000), .int .i64 1000000000] ?_; (with_reducible refine (impl_in.calls a0 (-1000000000) 1000000000 t851 _ A2.out).mono ?_); rintro e w' ⟨rfl, ⟨nd, rfl⟩⟩; refine ⟨_, rfl, ?_⟩))
 go_ret
 exact ⟨es, dr0⟩

end Go.Proofs.Ytplekidnlofioaa.Q
namespace Go.Proofs.Ytplekidnlofioaa.Q
open Go.RowKit Go.Proofs.YtplekidnlofioaaW.PrintWords Go.Proofs.YtplekidnlofioaaW.PrintLast Go.Proofs.YtplekidnlofioaaW.PrintMore
attribute [local go_sem] max2_int min2_int max_two min_two max_three min_three max_four min_four   -- for this text's walks alone
set_option linter.unusedVariables false
set_option linter.unusedSimpArgs false

/-! ### impl_CutValue: function 160 -/
def impl_CutValue.f (a0 : Int) : Option (Int × Bool) := some (mn (mx a0 (-1000000000)) 1000000000, ((mn (mx a0 (-1000000000)) 1000000000) != a0))
set_option maxHeartbeats 8000000 in
set_option maxRecDepth 100000 in
theorem impl_CutValue.calls (a0 : Int) (r1 : Int) (r2 : Bool) (w : World) (h : impl_CutValue.f a0 = some (r1, r2)) :
 Calls Try.prog 160 #[.int .i64 a0] w fun e w' => e = .returned (.tuple #[.int .i64 r1, .bool r2]) ∧ Below w.heap.size w w' := by
 have HB := Aside0.mk (Below.refl w.heap.size w)
 have H : (some (mn (mx a0 (-1000000000)) 1000000000, ((mn (mx a0 (-1000000000)) 1000000000) != a0))) = some (r1, r2) := h
 clear h
 obtain ⟨ji2, hji2⟩ : ∃ j_ : Int, (mx a0 (-1000000000)) = j_ := ⟨_, rfl⟩
 replace H : (some (mn (ji2) 1000000000, ((mn (ji2) 1000000000) != a0))) = some (r1, r2) := by first | (rw [hji2] at H; exact H) | (simp only [hji2] at H ⊢; exact H)
 have hji2_ : (if a0 < (-1000000000) then (-1000000000) else a0) = ji2 := hji2
 obtain ⟨ji3, hji3⟩ : ∃ j_ : Int, (mn (ji2) 1000000000) = j_ := ⟨_, rfl⟩
 replace H : (some (ji3, ((ji3) != a0))) = some (r1, r2) := by first | (rw [hji3] at H; exact H) | (simp only [hji3] at H ⊢; exact H)
 have hji3_ : (if 1000000000 < (ji2) then 1000000000 else (ji2)) = ji3 := hji3
 simp only [Option.some.injEq, Prod.mk.injEq] at H
 obtain ⟨rfl, rfl⟩ := H
 go_enter Try.func160, Try.ntmps160
 go_wp2
 go_ret2
 exact ⟨by first | rfl | (simp [errW_none, errW_some] <;> rfl) | (simp only [← hji2, ← hji3]; first | rfl | (simp [errW_none, errW_some] <;> rfl)) | (simp [*, errW_none, errW_some] <;> rfl), bl⟩

end Go.Proofs.Ytplekidnlofioaa.Q
namespace Go.Proofs.Ytplekidnlofioaa.Q
open Go.RowKit Go.Proofs.YtplekidnlofioaaW.PrintWords Go.Proofs.YtplekidnlofioaaW.PrintLast Go.Proofs.YtplekidnlofioaaW.PrintMore
attribute [local go_sem] max2_int min2_int max_two min_two max_three min_three max_four min_four   -- for this text's walks alone
set_option linter.unusedVariables false
set_option linter.unusedSimpArgs false

/-! ### impl_AddValues: function 106 -/
def impl_AddValues.l0 : Nat → Int → Bool → List Int → Int → Int → Option (Int × Bool)
 | 0, _, _, _, _, _ => none
 | k + 1, x4, x5, x13, x14, x15 => if x15 < x14 then (if 0 ≤ x15 then (if x15 < (x13.length : Int) then ((impl_isValue.f (rd x13 x15)).bind fun t853 => (if t853 = true then ((impl_CutValue.f (wrap64 (x4 + (rd x13 x15)))).bind fun bt854 => (if x5 = true then (impl_AddValues.l0 k bt854.1 true x13 x14 (wrap64 (x15 + 1))) else (impl_AddValues.l0 k bt854.1 bt854.2 x13 x14 (wrap64 (x15 + 1))))) else (some (0, true)))) else (none)) else (none)) else (some (x4, x5))
def impl_AddValues.f (k : Nat) (l0 : List Int) : Option (Int × Bool) := if (l0.length : Int) > 300 then (some (0, true)) else (impl_AddValues.l0 k 0 false l0 (l0.length : Int) 0)
theorem impl_AddValues.mono_l : ∀ k, (∀ y0 y1 y2 y3 y4, LeO (impl_AddValues.l0 k y0 y1 y2 y3 y4) (impl_AddValues.l0 (k + 1) y0 y1 y2 y3 y4))
 | 0 => fun _ _ _ _ _ r h => by simp [impl_AddValues.l0] at h
 | k + 1 => by
  have ih0 := impl_AddValues.mono_l k
  · intro y0 y1 y2 y3 y4
    unfold impl_AddValues.l0
    repeat' first
    | (with_reducible exact ih0 _ _ _ _ _)
    | (with_reducible exact LeO.refl _)
    | (with_reducible exact LeO.none _)
    | (with_reducible refine LeO.ite ?_ ?_)
    | (with_reducible refine LeO.bind ?_ (fun _ => ?_))
    | exact ih0 _ _ _ _ _
    | exact LeO.none _
    | refine LeO.ite ?_ ?_
    | refine LeO.bind ?_ (fun _ => ?_)
theorem impl_AddValues.mono : ∀ a0 k, LeO (impl_AddValues.f k a0) (impl_AddValues.f (k + 1) a0) := by
 intro a0 k
 have ih0 := impl_AddValues.mono_l k
 unfold impl_AddValues.f
 repeat' first
  | (with_reducible exact ih0 _ _ _ _ _)
  | (with_reducible exact LeO.refl _)
  | (with_reducible exact LeO.none _)
  | (with_reducible refine LeO.ite ?_ ?_)
  | (with_reducible refine LeO.bind ?_ (fun _ => ?_))
  | exact ih0 _ _ _ _ _
  | exact LeO.none _
  | refine LeO.ite ?_ ?_
  | refine LeO.bind ?_ (fun _ => ?_)
set_option maxHeartbeats 8000000 in
set_option maxRecDepth 100000 in
theorem impl_AddValues.calls (k : Nat) (A0 : Option Addr) (c0 : Nat) (l0 : List Int) (r1 : Int) (r2 : Bool) (w : World) (hr0 : Kd.C (Kd.int .i64) w A0 l0.length l0) (hc0 : l0.length ≤ c0) (h : impl_AddValues.f k l0 = some (r1, r2)) :
 Calls Try.prog 106 #[.slice A0 l0.length c0] w fun e w' => e = .returned (.tuple #[.int .i64 r1, .bool r2]) ∧ Below w.heap.size w w' := by
 have HR0 := Aside0.mk hr0
 have HC0 := Aside0.mk hc0
 clear hr0 hc0
 have HB := Aside0.mk (Below.refl w.heap.size w)
 have H : (if (l0.length : Int) > 300 then (some (0, true)) else (impl_AddValues.l0 k 0 false l0 (l0.length : Int) 0)) = some (r1, r2) := h
 clear h
 by_cases c2 : (l0.length : Int) > 300
 · rw [if_pos c2] at H
   have c2b0 : decide (300 < (l0.length : Int)) = true := decide_eq_true c2
   have c2b1 : decide (300 < l0.length) = true := decide_eq_true (by omega)
   clear c2
   simp only [Option.some.injEq, Prod.mk.injEq] at H
   obtain ⟨rfl, rfl⟩ := H
   go_enter Try.func106, Try.ntmps106
   go_wp2
   go_ret2
   exact ⟨ew, bl⟩
 · rw [if_neg c2] at H
   have c2b0 : decide (300 < (l0.length : Int)) = false := decide_eq_false c2
   have c2b1 : decide (300 < l0.length) = false := decide_eq_false (by omega)
   clear c2
   have H' := Aside0.mk H
   clear H
   go_enter Try.func106, Try.ntmps106
   go_wp2
   go_loopg [4, 5, 15] k (fun kq v4 v5 v15 w' => ∃ (x4_1 : Int) (x5_1 : Bool) (x15_1 : Int), v4 = .int .i64 x4_1 ∧ v5 = .bool x5_1 ∧ v15 = .int .i64 x15_1 ∧ Aside0 (impl_AddValues.l0 kq x4_1 x5_1 l0 (l0.length : Int) x15_1 = some (r1, r2)) ∧ Aside0 (kq ≤ k) ∧ Aside0 (Below w.heap.size w w'))
   case atStart => exact ⟨(0), (false), (0), es, es, es, H', ⟨Nat.le_refl _⟩, ⟨bl⟩⟩
   case round =>
    clear H'
    try clear c1
    try clear c2
    try clear c2b0
    try clear c2b1
    try clear p2
    obtain ⟨x4_1, x5_1, x15_1, rfl, rfl, rfl, HA, HK1, HB⟩ := hrel
    cases gk with
    | zero => exact absurd HA.out (by simp [impl_AddValues.l0])
    | succ k1 =>
     have H := HA.out
     clear HA
     simp only [impl_AddValues.l0] at H
     by_cases c3 : x15_1 < (l0.length : Int)
     · rw [if_pos c3] at H
       have c3b0 : decide (x15_1 < (l0.length : Int)) = true := decide_eq_true c3
       clear c3
       by_cases c4 : 0 ≤ x15_1
       · rw [if_pos c4] at H
         have c4b0 : decide (0 ≤ x15_1) = true := decide_eq_true c4
         clear c4
         by_cases c5 : x15_1 < (l0.length : Int)
         · rw [if_pos c5] at H
           have c5b0 : decide (x15_1 < (l0.length : Int)) = true := decide_eq_true c5
           clear c5
           obtain ⟨t853, A60, H⟩ := bo H
           have A6 := Aside0.mk A60
           clear A60
           by_cases c7 : t853 = true
           · subst c7
             replace H := iT H
             replace H := Option.bind_eq_some_iff.mp H
             obtain ⟨⟨t854, t855⟩, A80, H⟩ := H
             replace H : (if x5_1 = true then (impl_AddValues.l0 k1 t854 true l0 (l0.length : Int) (wrap64 (x15_1 + 1))) else (impl_AddValues.l0 k1 t854 t855 l0 (l0.length : Int) (wrap64 (x15_1 + 1)))) = some (r1, r2) := H
             have A8 := Aside0.mk A80
             clear A80
             by_cases c9 : x5_1 = true
             · subst c9
               replace H := iT H
               have H' := Aside0.mk H
               clear H
               have p852 : 0 ≤ (x15_1 : Int) := of_decide_eq_true am
               have q852 : x15_1 < (l0.length : Int) := of_decide_eq_true am
               obtain ⟨ad852, e852, hx852_0⟩ := Kd.at_int HR0.out x15_1 p852 q852
               cases e852
               replace hx852_0 := cw hx852_0
               replace p852 := eq_true p852
               replace q852 := eq_true q852
               go_wp2_with (first | ((with_reducible refine gate_callee (f := 159) rfl ?_); refine gl (some 20) Try.func159 #[.int .i64 (rd l0 x15_1)] ?_; (with_reducible refine (impl_isValue.calls (rd l0 x15_1) true _ A6.out).mono ?_); rintro e w' ⟨rfl, ⟨nd, rfl⟩⟩; refine ⟨_, rfl, ?_⟩) | ((with_reducible refine gate_callee (f := 160) rfl ?_); refine gl (some 26) Try.func160 #[.int .i64 (wrap64 (x4_1 + (rd l0 x15_1)))] ?_; (with_reducible refine (impl_CutValue.calls (wrap64 (x4_1 + (rd l0 x15_1))) t854 t855 _ A8.out).mono ?_); rintro e w10 ⟨rfl, hb⟩; refine ⟨_, rfl, ?_⟩; replace HB := ak (below_step bl hb); (try clear hb); (try clear hb2); (try clear hk); (try clear hi)))
               go_roundg k1
               case measure => have := HK1.out; omega
               case rel => exact ⟨(t854), (true), (wrap64 (x15_1 + 1)), es, es, es, H', ⟨kp⟩, ⟨bl⟩⟩
             · replace c9 := Bool.eq_false_iff.mpr c9
               subst c9
               replace H := iF H
               have H' := Aside0.mk H
               clear H
               have p852 : 0 ≤ (x15_1 : Int) := of_decide_eq_true am
               have q852 : x15_1 < (l0.length : Int) := of_decide_eq_true am
               obtain ⟨ad852, e852, hx852_0⟩ := Kd.at_int HR0.out x15_1 p852 q852
               cases e852
               replace hx852_0 := cw hx852_0
               replace p852 := eq_true p852
               replace q852 := eq_true q852
               go_wp2_with (first | ((with_reducible refine gate_callee (f := 159) rfl ?_); refine gl (some 20) Try.func159 #[.int .i64 (rd l0 x15_1)] ?_; (with_reducible refine (impl_isValue.calls (rd l0 x15_1) true _ A6.out).mono ?_); rintro e w' ⟨rfl, ⟨nd, rfl⟩⟩; refine ⟨_, rfl, ?_⟩) | ((with_reducible refine gate_callee (f := 160) rfl ?_); refine gl (some 26) Try.func160 #[.int .i64 (wrap64 (x4_1 + (rd l0 x15_1)))] ?_; (with_reducible refine (impl_CutValue.calls (wrap64 (x4_1 + (rd l0 x15_1))) t854 t855 _ A8.out).mono ?_); rintro e w11 ⟨rfl, hb⟩; refine ⟨_, rfl, ?_⟩; replace HB := ak (below_step bl hb); (try clear hb); (try clear hb2); (try clear hk); (try clear hi)))
               go_roundg k1
               case measure => have := HK1.out; omega
               case rel => exact ⟨(t854), (t855), (wrap64 (x15_1 + 1)), es, es, es, H', ⟨kp⟩, ⟨bl⟩⟩
           · replace c7 := Bool.eq_false_iff.mpr c7
             subst c7
             replace H := iF H
             simp only [Option.some.injEq, Prod.mk.injEq] at H
             obtain ⟨rfl, rfl⟩ := H
             have p852 : 0 ≤ (x15_1 : Int) := of_decide_eq_true am
             have q852 : x15_1 < (l0.length : Int) := of_decide_eq_true am
             obtain ⟨ad852, e852, hx852_0⟩ := Kd.at_int HR0.out x15_1 p852 q852
             cases e852
             replace hx852_0 := cw hx852_0
             replace p852 := eq_true p852
             replace q852 := eq_true q852
             go_wp2_with (first | ((with_reducible refine gate_callee (f := 159) rfl ?_); refine gl (some 20) Try.func159 #[.int .i64 (rd l0 x15_1)] ?_; (with_reducible refine (impl_isValue.calls (rd l0 x15_1) false _ A6.out).mono ?_); rintro e w' ⟨rfl, ⟨nd, rfl⟩⟩; refine ⟨_, rfl, ?_⟩))
             go_ret2
             exact ⟨ew, bl⟩
         · rw [if_neg c5] at H
           exact absurd H (by simp)
       · rw [if_neg c4] at H
         exact absurd H (by simp)
     · rw [if_neg c3] at H
       have c3b0 : decide (x15_1 < (l0.length : Int)) = false := decide_eq_false c3
       clear c3
       simp only [Option.some.injEq, Prod.mk.injEq] at H
       obtain ⟨rfl, rfl⟩ := H
       go_wp2
       go_ret2
       exact ⟨ew, bl⟩

end Go.Proofs.Ytplekidnlofioaa.Q
namespace Go.Proofs.Ytplekidnlofioaa.Q
open Go.RowKit Go.Proofs.YtplekidnlofioaaW.PrintWords Go.Proofs.YtplekidnlofioaaW.PrintLast Go.Proofs.YtplekidnlofioaaW.PrintMore
attribute [local go_sem] max2_int min2_int max_two min_two max_three min_three max_four min_four   -- for this text's walks alone
set_option linter.unusedVariables false
set_option linter.unusedSimpArgs false

/-! ### impl_FloorDiv: function 185 -/
def impl_FloorDiv.f (a0 : Int) (a1 : Int) : Option (Int) := if a1 < 1 then (some 0) else (if a1 = 0 then (none) else (if (Int.tmod a0 a1) < 0 then (some (wrap64 ((wrap64 (Int.tdiv a0 a1)) - 1))) else (some (wrap64 (Int.tdiv a0 a1)))))
set_option maxHeartbeats 8000000 in
set_option maxRecDepth 100000 in
theorem impl_FloorDiv.calls (a0 : Int) (a1 : Int) (r : Int) (w : World) (h : impl_FloorDiv.f a0 a1 = some r) :
 Calls Try.prog 185 #[.int .i64 a0, .int .i64 a1] w fun e w' => e = .returned (.int .i64 r) ∧ Drawn0 w w' := by
 have H : (if a1 < 1 then (some 0) else (if a1 = 0 then (none) else (if (Int.tmod a0 a1) < 0 then (some (wrap64 ((wrap64 (Int.tdiv a0 a1)) - 1))) else (some (wrap64 (Int.tdiv a0 a1)))))) = some r := h
 clear h
 by_cases c3 : a1 < 1
 · rw [if_pos c3] at H
   have c3b0 : decide (a1 < 1) = true := decide_eq_true c3
   clear c3
   obtain rfl := Option.some.inj H
   go_enter Try.func185, Try.ntmps185
   go_wp2
   go_ret
   exact ⟨es, dr0⟩
 · rw [if_neg c3] at H
   have c3b0 : decide (a1 < 1) = false := decide_eq_false c3
   clear c3
   by_cases c4 : a1 = 0
   · rw [if_pos c4] at H
     exact absurd H (by simp)
   · rw [if_neg c4] at H
     have c4b0 : (a1 == 0) = false := beq_eq_false_iff_ne.mpr c4
     have c4b1 : (a1 != 0) = true := bne_iff_ne.mpr c4
     by_cases c5 : (Int.tmod a0 a1) < 0
     · rw [if_pos c5] at H
       have c5b0 : decide ((Int.tmod a0 a1) < 0) = true := decide_eq_true c5
       clear c5
       obtain rfl := Option.some.inj H
       go_enter Try.func185, Try.ntmps185
       go_wp2
       go_ret
       exact ⟨es, dr0⟩
     · rw [if_neg c5] at H
       have c5b0 : decide ((Int.tmod a0 a1) < 0) = false := decide_eq_false c5
       clear c5
       obtain rfl := Option.some.inj H
       go_enter Try.func185, Try.ntmps185
       go_wp2
       go_ret
       exact ⟨es, dr0⟩

end Go.Proofs.Ytplekidnlofioaa.Q
