/- Part 3 of the proof of FnExactTallyOf: contracts of the functions that it reaches, printed and by hand, and what they come to in plain Lean. -/
import Derived.Test.YtplekidnlofioaaAFnExactTallyOf2
namespace Go.Proofs.Ytplekidnlofioaa.Q
open Go.RowKit Go.Proofs.YtplekidnlofioaaW.PrintWords Go.Proofs.YtplekidnlofioaaW.PrintLast Go.Proofs.YtplekidnlofioaaW.PrintMore
attribute [local go_sem] max2_int min2_int max_two min_two max_three min_three max_four min_four   -- for this text's walks alone
set_option linter.unusedVariables false
set_option linter.unusedSimpArgs false

/-! ### spec_StoreOk: function 16 -/
mutual
def spec_StoreOk.l0 : Nat → List (S81) → Int → Option (Bool)
 | 0, _, _ => none
 | k + 1, x0, x3 => if x3 < (x0.length : Int) then (if 0 ≤ x3 then ((spec_NameOk.f k ((rd_T81 x0 x3).f0)).bind fun t186 => (if t186 = true then ((spec_NameOk.f k ((rd_T81 x0 x3).f1)).bind fun t187 => (if t187 = true then ((spec_l01In.f (((rd_T81 x0 x3).f2).length : Int) 1 12).bind fun t188 => (if t188 = true then (if x3 > 0 then (if 0 ≤ (wrap64 (x3 - 1)) then (if (wrap64 (x3 - 1)) < (x0.length : Int) then ((spec_l03Before.f k ((rd_T81 x0 (wrap64 (x3 - 1))).f0) ((rd_T81 x0 (wrap64 (x3 - 1))).f1) ((rd_T81 x0 x3).f0) ((rd_T81 x0 x3).f1)).bind fun t191 => (spec_StoreOk.j1 k x0 x3 (!t191) ((rd_T81 x0 x3).f0) ((rd_T81 x0 x3).f1) ((rd_T81 x0 x3).f2))) else (none)) else (none)) else (spec_StoreOk.j1 k x0 x3 false ((rd_T81 x0 x3).f0) ((rd_T81 x0 x3).f1) ((rd_T81 x0 x3).f2))) else (spec_StoreOk.j1 k x0 x3 true ((rd_T81 x0 x3).f0) ((rd_T81 x0 x3).f1) ((rd_T81 x0 x3).f2)))) else (spec_StoreOk.j1 k x0 x3 true ((rd_T81 x0 x3).f0) ((rd_T81 x0 x3).f1) ((rd_T81 x0 x3).f2)))) else (spec_StoreOk.j1 k x0 x3 true ((rd_T81 x0 x3).f0) ((rd_T81 x0 x3).f1) ((rd_T81 x0 x3).f2)))) else (none)) else (some true)
def spec_StoreOk.j1 : Nat → List (S81) → Int → Bool → ByteArray → ByteArray → List (S37) → Option (Bool)
 | 0, _, _, _, _, _, _ => none
 | k + 1, x0, x3, x59, x186000, x186001, x186002 => if x59 = true then (some false) else (spec_StoreOk.l1 k x0 x3 0 x186000 x186001 x186002)
def spec_StoreOk.l1 : Nat → List (S81) → Int → Int → ByteArray → ByteArray → List (S37) → Option (Bool)
 | 0, _, _, _, _, _, _ => none
 | k + 1, x0, x3, x5, x186000, x186001, x186002 => if x5 < (x186002.length : Int) then (if 0 ≤ x5 then ((spec_l02Tick.f ((rd_T37 x186002 x5).f0)).bind fun t193 => (if t193 = true then ((spec_l01Amt.f ((rd_T37 x186002 x5).f1)).bind fun t195 => (if t195 = true then (if x5 > 0 then (if 0 ≤ (wrap64 (x5 - 1)) then (if (wrap64 (x5 - 1)) < (x186002.length : Int) then (if ((rd_T37 x186002 (wrap64 (x5 - 1))).f0) ≥ ((rd_T37 x186002 x5).f0) then (some false) else (spec_StoreOk.l1 k x0 x3 (wrap64 (x5 + 1)) x186000 x186001 x186002)) else (none)) else (none)) else (spec_StoreOk.l1 k x0 x3 (wrap64 (x5 + 1)) x186000 x186001 x186002)) else (some false))) else (some false))) else (none)) else (spec_StoreOk.l0 k x0 (wrap64 (x3 + 1)))
end
def spec_StoreOk.f (k : Nat) (l0 : List (S81)) : Option (Bool) := if (l0.length : Int) > 24 then (some false) else (spec_StoreOk.l0 k l0 0)
theorem spec_StoreOk.mono_l : ∀ k, (∀ y0 y1, LeO (spec_StoreOk.l0 k y0 y1) (spec_StoreOk.l0 (k + 1) y0 y1)) ∧ (∀ y0 y1 y2 y3 y4 y5, LeO (spec_StoreOk.j1 k y0 y1 y2 y3 y4 y5) (spec_StoreOk.j1 (k + 1) y0 y1 y2 y3 y4 y5)) ∧ (∀ y0 y1 y2 y3 y4 y5, LeO (spec_StoreOk.l1 k y0 y1 y2 y3 y4 y5) (spec_StoreOk.l1 (k + 1) y0 y1 y2 y3 y4 y5))
 | 0 => ⟨fun _ _ r h => by simp [spec_StoreOk.l0] at h, fun _ _ _ _ _ _ r h => by simp [spec_StoreOk.j1] at h, fun _ _ _ _ _ _ r h => by simp [spec_StoreOk.l1] at h⟩
 | k + 1 => by
  obtain ⟨ih0, ih1, ih2⟩ := spec_StoreOk.mono_l k
  refine ⟨?_, ?_, ?_⟩
  · intro y0 y1
    unfold spec_StoreOk.l0
    repeat' first
    | (with_reducible exact ih0 _ _)
    | (with_reducible exact ih1 _ _ _ _ _ _)
    | (with_reducible exact ih2 _ _ _ _ _ _)
    | (with_reducible exact spec_NameOk.mono _ _)
    | (with_reducible exact spec_l03Before.mono _ _ _ _ _)
    | (with_reducible exact LeO.refl _)
    | (with_reducible exact LeO.none _)
    | (with_reducible refine LeO.ite ?_ ?_)
    | (with_reducible refine LeO.bind ?_ (fun _ => ?_))
    | exact ih0 _ _
    | exact ih1 _ _ _ _ _ _
    | exact ih2 _ _ _ _ _ _
    | exact spec_NameOk.mono _ _
    | exact spec_l03Before.mono _ _ _ _ _
    | exact LeO.none _
    | refine LeO.ite ?_ ?_
    | refine LeO.bind ?_ (fun _ => ?_)
  · intro y0 y1 y2 y3 y4 y5
    unfold spec_StoreOk.j1
    repeat' first
    | (with_reducible exact ih0 _ _)
    | (with_reducible exact ih1 _ _ _ _ _ _)
    | (with_reducible exact ih2 _ _ _ _ _ _)
    | (with_reducible exact spec_NameOk.mono _ _)
    | (with_reducible exact spec_l03Before.mono _ _ _ _ _)
    | (with_reducible exact LeO.refl _)
    | (with_reducible exact LeO.none _)
    | (with_reducible refine LeO.ite ?_ ?_)
    | (with_reducible refine LeO.bind ?_ (fun _ => ?_))
    | exact ih0 _ _
    | exact ih1 _ _ _ _ _ _
    | exact ih2 _ _ _ _ _ _
    | exact spec_NameOk.mono _ _
    | exact spec_l03Before.mono _ _ _ _ _
    | exact LeO.none _
    | refine LeO.ite ?_ ?_
    | refine LeO.bind ?_ (fun _ => ?_)
  · intro y0 y1 y2 y3 y4 y5
    unfold spec_StoreOk.l1
    repeat' first
    | (with_reducible exact ih0 _ _)
    | (with_reducible exact ih1 _ _ _ _ _ _)
    | (with_reducible exact ih2 _ _ _ _ _ _)
    | (with_reducible exact spec_NameOk.mono _ _)
    | (with_reducible exact spec_l03Before.mono _ _ _ _ _)
    | (with_reducible exact LeO.refl _)
    | (with_reducible exact LeO.none _)
    | (with_reducible refine LeO.ite ?_ ?_)
    | (with_reducible refine LeO.bind ?_ (fun _ => ?_))
    | exact ih0 _ _
    | exact ih1 _ _ _ _ _ _
    | exact ih2 _ _ _ _ _ _
    | exact spec_NameOk.mono _ _
    | exact spec_l03Before.mono _ _ _ _ _
    | exact LeO.none _
    | refine LeO.ite ?_ ?_
    | refine LeO.bind ?_ (fun _ => ?_)
theorem spec_StoreOk.mono : ∀ a0 k, LeO (spec_StoreOk.f k a0) (spec_StoreOk.f (k + 1) a0) := by
 intro a0 k
 obtain ⟨ih0, ih1, ih2⟩ := spec_StoreOk.mono_l k
 unfold spec_StoreOk.f
 repeat' first
  | (with_reducible exact ih0 _ _)
  | (with_reducible exact ih1 _ _ _ _ _ _)
  | (with_reducible exact ih2 _ _ _ _ _ _)
  | (with_reducible exact spec_NameOk.mono _ _)
  | (with_reducible exact spec_l03Before.mono _ _ _ _ _)
  | (with_reducible exact LeO.refl _)
  | (with_reducible exact LeO.none _)
  | (with_reducible refine LeO.ite ?_ ?_)
  | (with_reducible refine LeO.bind ?_ (fun _ => ?_))
  | exact ih0 _ _
  | exact ih1 _ _ _ _ _ _
  | exact ih2 _ _ _ _ _ _
  | exact spec_NameOk.mono _ _
  | exact spec_l03Before.mono _ _ _ _ _
  | exact LeO.none _
  | refine LeO.ite ?_ ?_
  | refine LeO.bind ?_ (fun _ => ?_)
def spec_StoreOk.T7 : Bool × List (List Nat × List Nat) := (true, [([], []), ([0], [0]), ([1], [1]), ([2], [2]), ([3, 2], [3]), ([4], [4]), ([5, 4], [4, 5]), ([6, 4, 4], [4, 6]), ([7, 4], [4, 7]), ([4, 8], [4, 8]), ([9, 7], [9]), ([10], [10]), ([11, 10], [10, 11]), ([12, 10], [10, 12]), ([13, 10, 10], [10, 13]), ([14, 10], [10, 14]), ([10, 15], [10, 15]), ([16, 14], [16]), ([17], [17]), ([18, 17], [17, 18]), ([19, 17, 17], [17, 19]), ([20], [20]), ([20], [20]), ([22, 20], [20, 22]), ([21, 23, 20], [20, 21, 23]), ([24, 20], [20, 24]), ([25, 20], [20, 25]), ([20], [20]), ([20], [20]), ([28, 20], [20, 28]), ([27, 29, 20], [20, 27, 29]), ([30, 20], [20, 30]), ([31, 20], [20, 31]), ([20], [20]), ([33, 20], [20, 33]), ([20], [20]), ([35, 20], [20, 35]), ([26, 32, 34, 36, 20, 20], [20, 26, 32, 34, 36]), ([37, 20], [20, 37]), ([20, 38, 17], [17, 20, 38]), ([17, 39], [17, 39])])
def spec_StoreOk.B7 : List Nat := [0, 1, 3, 7, 15, 31, 63, 127, 255, 511, 1023, 2047, 4095, 8191, 16383, 32767, 65535, 131071, 262143, 524287, 1048575, 2097151, 2097151, 6291455, 16777215, 33554431, 67108863, 2097151, 2097151, 270532607, 941621247, 2015363071, 4162846719, 2097151, 8592031743, 2097151, 34361835519, 137438953471, 274877906943, 549755813887, 1099511627775]
theorem spec_StoreOk.tab7 : rtab .any (opsOf Try.f16 7) = spec_StoreOk.T7 := by kernel_rfl
theorem spec_StoreOk.bits7 : waitsOk spec_StoreOk.T7.2 spec_StoreOk.B7 = true := by kernel_rfl
def spec_StoreOk.T12 : Bool × List (List Nat × List Nat) := (true, [([], []), ([0], [0]), ([], []), ([1, 2], [1, 2]), ([3], [3]), ([4], [4]), ([5], [5]), ([6], [6]), ([7, 6], [7]), ([8], [8]), ([9, 8], [8, 9]), ([8], [8]), ([10, 11, 8], [8, 10, 11]), ([12, 8], [8, 12]), ([13, 8], [8, 13]), ([14, 8, 8], [8, 14]), ([15, 8], [8, 15]), ([8, 16], [8, 16]), ([17, 15], [17]), ([18], [18]), ([19, 18], [18, 19]), ([20, 18, 18], [18, 20]), ([21], [21]), ([22, 21], [21, 22]), ([21], [21]), ([24, 21], [21, 24]), ([23, 25, 21], [21, 23, 25]), ([26, 21], [21, 26]), ([27, 21], [21, 27]), ([21], [21]), ([29, 21], [21, 29]), ([21], [21]), ([30, 31, 21], [21, 30, 31]), ([32, 21], [21, 32]), ([33, 21], [21, 33]), ([28, 34, 21], [21, 28, 34]), ([21, 35, 18], [18, 21, 35]), ([18, 36], [18, 36])])
def spec_StoreOk.B12 : List Nat := [0, 1, 0, 7, 15, 31, 63, 127, 255, 511, 1023, 511, 4095, 8191, 16383, 32767, 65535, 131071, 262143, 524287, 1048575, 2097151, 4194303, 8388607, 4194303, 20971519, 67108863, 134217727, 268435455, 4194303, 541065215, 4194303, 3762290687, 8057257983, 16647192575, 34359738367, 68719476735, 137438953471]
theorem spec_StoreOk.tab12 : rtab .any (opsOf Try.f16 12) = spec_StoreOk.T12 := by kernel_rfl
theorem spec_StoreOk.bits12 : waitsOk spec_StoreOk.T12.2 spec_StoreOk.B12 = true := by kernel_rfl
set_option maxHeartbeats 8000000 in
set_option maxRecDepth 100000 in
theorem spec_StoreOk.calls (k : Nat) (A0 : Option Addr) (c0 : Nat) (l0 : List (S81)) (r : Bool) (w : World) (hr0 : Kd.C k81 w A0 l0.length l0) (hc0 : l0.length ≤ c0) (h : spec_StoreOk.f k l0 = some r) :
 Calls Try.prog 16 #[.slice A0 l0.length c0] w fun e w' => e = .returned (.bool r) ∧ Below w.heap.size w w' := by
 have hu81 := Try.underlying81
 have HR0 := Aside0.mk hr0
 have HC0 := Aside0.mk hc0
 clear hr0 hc0
 have HB := Aside0.mk (Below.refl w.heap.size w)
 have H : (if (l0.length : Int) > 24 then (some false) else (spec_StoreOk.l0 k l0 0)) = some r := h
 clear h
 by_cases c2 : (l0.length : Int) > 24
 · rw [if_pos c2] at H
   have c2b0 : decide (24 < (l0.length : Int)) = true := decide_eq_true c2
   have c2b1 : decide (24 < l0.length) = true := decide_eq_true (by omega)
   clear c2
   obtain rfl := Option.some.inj H
   go_enter Try.func16, Try.ntmps16
   go_wp2
   go_ret
   exact ⟨ew, bl⟩
 · rw [if_neg c2] at H
   have c2b0 : decide (24 < (l0.length : Int)) = false := decide_eq_false c2
   have c2b1 : decide (24 < l0.length) = false := decide_eq_false (by omega)
   clear c2
   have H' := Aside0.mk H
   clear H
   go_enter Try.func16, Try.ntmps16
   go_wp2
   go_loopg [3] k (fun kq v3 w' => ∃ (x3_1 : Int), v3 = .int .i64 x3_1 ∧ Aside0 (spec_StoreOk.l0 kq l0 x3_1 = some r) ∧ Aside0 (kq ≤ k) ∧ Aside0 (Below w.heap.size w w'))
   case atStart => exact ⟨(0), es, H', ⟨Nat.le_refl _⟩, ⟨bl⟩⟩
   case round =>
    clear H'
    try clear c1
    try clear c2
    try clear c2b0
    try clear c2b1
    try clear p2
    obtain ⟨x3_1, rfl, HA, HK1, HB⟩ := hrel
    cases gk with
    | zero => exact absurd HA.out (by simp [spec_StoreOk.l0])
    | succ k1 =>
     have H := HA.out
     clear HA
     simp only [spec_StoreOk.l0] at H
     by_cases c3 : x3_1 < (l0.length : Int)
     · rw [if_pos c3] at H
       have c3b0 : decide (x3_1 < (l0.length : Int)) = true := decide_eq_true c3
       clear c3
       by_cases c4 : 0 ≤ x3_1
       · rw [if_pos c4] at H
         have c4b0 : decide (0 ≤ x3_1) = true := decide_eq_true c4
         clear c4
         have HC5 := Aside0.mk H
         clear H
         have p184 : 0 ≤ (x3_1 : Int) := of_decide_eq_true am
         have q184 : x3_1 < (l0.length : Int) := of_decide_eq_true am
         obtain ⟨ad184, A184_2, c184_2, e184, hx184_0, hx184_1, hx184_2, hl184_2, hi184_2⟩ := at_T81 HR0.out x3_1 p184 q184
         cases e184
         replace hx184_0 := cw hx184_0
         replace hx184_1 := cw hx184_1
         replace hx184_2 := cw hx184_2
         have HR184_2 := Aside0.mk hi184_2
         have HC184_2 := Aside0.mk hl184_2
         clear hi184_2 hl184_2
         replace p184 := eq_true p184
         replace q184 := eq_true q184
         go_upto_region 7 with (first | ((with_reducible refine gate_dst (N := 4) rfl ?_); (try (refine gate_guard (by rfl) ?_; dsimp only)); refine bx 4 #[.string (⟨#[]⟩ : ByteArray), .string (⟨#[]⟩ : ByteArray), .slice none 0 0] 81 ?_; intro gb185 hg w6 hbox hb; have BK185 := ak hbox; have GW185 := gs hg bl; have GE185 := gs hg bl; replace HB := ak (below_step bl hb); clear hb hbox hg; obtain ⟨hcz7_0, hcz7_1, hcz7_2, hfz7_0, hfz7_1, hfz7_2⟩ := cz3 BK185))
         (try simp only [Act.put, List.setIfInBounds_toArray, List.set_cons_zero, List.set_cons_succ])
         go_cut [59] (fun v59 wc => ∃ (kq : Nat) (x59_4 : Bool), v59 = .bool x59_4 ∧ Aside0 (spec_StoreOk.j1 kq l0 x3_1 x59_4 ((rd_T81 l0 x3_1).f0) ((rd_T81 l0 x3_1).f1) ((rd_T81 l0 x3_1).f2) = some r) ∧ Aside0 (kq ≤ k1) ∧ Aside0 (wc.heap[gb185]? = some (.cells #[.string ((rd_T81 l0 x3_1).f0), .string ((rd_T81 l0 x3_1).f1), (.slice A184_2 ((rd_T81 l0 x3_1).f2).length c184_2)] 81 (0, 0))) ∧ Aside0 (Below w.heap.size w wc))
         case first =>
          have H := HC5.out
          clear HC5
          obtain ⟨t186, A80, H⟩ := bo H
          have A8 := Aside0.mk A80
          clear A80
          by_cases c9 : t186 = true
          · subst c9
            replace H := iT H
            obtain ⟨t187, A100, H⟩ := bo H
            have A10 := Aside0.mk A100
            clear A100
            by_cases c11 : t187 = true
            · subst c11
              replace H := iT H
              obtain ⟨t188, A120, H⟩ := bo H
              have A12 := Aside0.mk A120
              clear A120
              by_cases c13 : t188 = true
              · subst c13
                replace H := iT H
                by_cases c14 : x3_1 > 0
                · rw [if_pos c14] at H
                  have c14b0 : decide (0 < x3_1) = true := decide_eq_true c14
                  clear c14
                  (first | rw [c14b0] | (simp only [i64_w, i32_w]; rw [c14b0]) | skip)
                  obtain ⟨ji15, hji15⟩ : ∃ j_ : Int, (wrap64 (x3_1 - 1)) = j_ := ⟨_, rfl⟩
                  replace H : (if 0 ≤ (ji15) then (if (ji15) < (l0.length : Int) then ((spec_l03Before.f k1 ((rd_T81 l0 (ji15)).f0) ((rd_T81 l0 (ji15)).f1) ((rd_T81 l0 x3_1).f0) ((rd_T81 l0 x3_1).f1)).bind fun t191 => (spec_StoreOk.j1 k1 l0 x3_1 (!t191) ((rd_T81 l0 x3_1).f0) ((rd_T81 l0 x3_1).f1) ((rd_T81 l0 x3_1).f2))) else (none)) else (none)) = some r := by first | (rw [hji15] at H; exact H) | (simp only [hji15] at H ⊢; exact H)
                  (try rw [hji15] at A8)
                  (try rw [hji15] at A10)
                  (try rw [hji15] at A12)
                  have hji15w : (IntKind.i64.wrap (x3_1 - 1)) = ji15 := (i64_w _).trans hji15
                  by_cases c16 : 0 ≤ (ji15)
                  · rw [if_pos c16] at H
                    have c16b0 : decide (0 ≤ (ji15)) = true := decide_eq_true c16
                    clear c16
                    by_cases c17 : (ji15) < (l0.length : Int)
                    · rw [if_pos c17] at H
                      have c17b0 : decide ((ji15) < (l0.length : Int)) = true := decide_eq_true c17
                      clear c17
                      obtain ⟨t191, A180, H⟩ := bo H
                      have A18 := Aside0.mk A180
                      clear A180
                      have H' := Aside0.mk H
                      clear H
                      try go_wp2
                      have n0_ : Aside0 ((((w6.setCell ⟨gb185, 0, none⟩ (.string ((rd_T81 l0 x3_1).f0))).setCell ⟨gb185, 1, none⟩ (.string ((rd_T81 l0 x3_1).f1))).setCell ⟨gb185, 2, none⟩ (.slice A184_2 ((rd_T81 l0 x3_1).f2).length c184_2)).heap[gb185]? = some (.cells #[.string ((rd_T81 l0 x3_1).f0), .string ((rd_T81 l0 x3_1).f1), .slice A184_2 ((rd_T81 l0 x3_1).f2).length c184_2] 81 (0, 0))) := ⟨by (with_reducible repeat (first | refine blk_drewN ?_ _ | refine blk_drew ?_ | refine blk_alloc ?_ _)); refine blk_put (cs := #[.string ((rd_T81 l0 x3_1).f0), .string ((rd_T81 l0 x3_1).f1), .slice none 0 0]) ?_ 2 _ rfl; (with_reducible repeat (first | refine blk_drewN ?_ _ | refine blk_drew ?_ | refine blk_alloc ?_ _)); refine blk_put (cs := #[.string ((rd_T81 l0 x3_1).f0), .string (⟨#[]⟩ : ByteArray), .slice none 0 0]) ?_ 1 _ rfl; (with_reducible repeat (first | refine blk_drewN ?_ _ | refine blk_drew ?_ | refine blk_alloc ?_ _)); refine blk_put (cs := #[.string (⟨#[]⟩ : ByteArray), .string (⟨#[]⟩ : ByteArray), .slice none 0 0]) ?_ 0 _ rfl; (with_reducible repeat (first | refine blk_drewN ?_ _ | refine blk_drew ?_ | refine blk_alloc ?_ _)); exact BK185.out⟩
                      have n1_ : Aside0 (Below w.heap.size w (((w6.setCell ⟨gb185, 0, none⟩ (.string ((rd_T81 l0 x3_1).f0))).setCell ⟨gb185, 1, none⟩ (.string ((rd_T81 l0 x3_1).f1))).setCell ⟨gb185, 2, none⟩ (.slice A184_2 ((rd_T81 l0 x3_1).f2).length c184_2))) := ⟨bl1 GE185⟩
                      (try clear BK185)
                      (try clear HB)
                      generalize (((w6.setCell ⟨gb185, 0, none⟩ (.string ((rd_T81 l0 x3_1).f0))).setCell ⟨gb185, 1, none⟩ (.string ((rd_T81 l0 x3_1).f1))).setCell ⟨gb185, 2, none⟩ (.slice A184_2 ((rd_T81 l0 x3_1).f2).length c184_2)) = w19 at n0_ n1_ ⊢
                      have BK185 := n0_
                      have HB := n1_
                      clear n0_ n1_
                      replace BK185 := ak (blk_drew BK185.out)
                      replace HB := ak (below_drew1 HB.out)
                      have p189 : 0 ≤ ((ji15) : Int) := of_decide_eq_true am
                      have q189 : (ji15) < (l0.length : Int) := of_decide_eq_true am
                      obtain ⟨ad189, A189_2, c189_2, e189, hx189_0, hx189_1, hx189_2, hl189_2, hi189_2⟩ := at_T81 HR0.out (ji15) p189 q189
                      have hw189_2 := hx189_2
                      have hw189_1 := hx189_1
                      have hw189_0 := hx189_0
                      obtain rfl : ad184 = ad189 := (by injection e189)
                      replace hx189_0 := cw hx189_0
                      replace hx189_1 := cw hx189_1
                      replace hx189_2 := cw hx189_2
                      have HR189_2 := Aside0.mk hi189_2
                      have HC189_2 := Aside0.mk hl189_2
                      clear hi189_2 hl189_2
                      replace p189 := eq_true p189
                      replace q189 := eq_true q189
                      have p190 : 0 ≤ ((ji15) : Int) := of_decide_eq_true am
                      have q190 : (ji15) < (l0.length : Int) := of_decide_eq_true am
                      obtain ⟨ad190, A190_2, c190_2, e190, hx190_0, hx190_1, hx190_2, hl190_2, hi190_2⟩ := at_T81 HR0.out (ji15) p190 q190
                      have hw190_2 := hx190_2
                      have hw190_1 := hx190_1
                      have hw190_0 := hx190_0
                      obtain rfl : ad184 = ad190 := (by injection e190)
                      replace hx190_0 := cw hx190_0
                      replace hx190_1 := cw hx190_1
                      replace hx190_2 := cw hx190_2
                      have HR190_2 := Aside0.mk hi190_2
                      have HC190_2 := Aside0.mk hl190_2
                      clear hi190_2 hl190_2
                      replace p190 := eq_true p190
                      replace q190 := eq_true q190
                      have ea_ := Option.some.inj (hx189_2.symm.trans hx190_2)
                      injection ea_ with ea_ en_ ec_
                      subst ea_
                      subst ec_
                      clear en_
                      refine start_ (n := 41) (S := fun w' => w'.cell? ⟨gb185, 0, none⟩ = some (.string ((rd_T81 l0 x3_1).f0)) ∧ w'.cell? ⟨gb185, 1, none⟩ = some (.string ((rd_T81 l0 x3_1).f1)) ∧ w'.cell? ⟨gb185, 2, none⟩ = some (.slice A184_2 ((rd_T81 l0 x3_1).f2).length c184_2) ∧ w'.cell? (ad184.add (((ji15)).toNat * 3)) = some (.string ((rd_T81 l0 (ji15)).f0)) ∧ w'.cell? ⟨(ad184.add (((ji15)).toNat * 3)).block, (ad184.add (((ji15)).toNat * 3)).off + 1, none⟩ = some (.string ((rd_T81 l0 (ji15)).f1)) ∧ w'.cell? ⟨(ad184.add (((ji15)).toNat * 3)).block, (ad184.add (((ji15)).toNat * 3)).off + 2, none⟩ = some (.slice A189_2 ((rd_T81 l0 (ji15)).f2).length c189_2) ∧ w'.cell? (ad184.add (((ji15)).toNat * 3)) = some (.string ((rd_T81 l0 (ji15)).f0)) ∧ w'.cell? ⟨(ad184.add (((ji15)).toNat * 3)).block, (ad184.add (((ji15)).toNat * 3)).off + 1, none⟩ = some (.string ((rd_T81 l0 (ji15)).f1)) ∧ w'.cell? ⟨(ad184.add (((ji15)).toNat * 3)).block, (ad184.add (((ji15)).toNat * 3)).off + 2, none⟩ = some (.slice A189_2 ((rd_T81 l0 (ji15)).f2).length c189_2)) (ds := []) (bitsA 41 0) (by kernel_rfl) rfl rfl ⟨bc BK185 0, bc BK185 1, bc BK185 2, (cw hw189_0), (cw hw189_1), (cw hw189_2), (cw hw190_0), (cw hw190_1), (cw hw190_2)⟩ (fun hHeld => ?_); refine with_tabW spec_StoreOk.tab7 spec_StoreOk.bits7 (fun HT_ HW_ => ?_)
                      generalize w19.drew = w20 at BK185 HB HR189_2 HR190_2 hx189_0 hx189_1 hx189_2 hx190_0 hx190_1 hx190_2 hHeld ⊢
                      refine pu 0 (some 19) (bitsA 41 1) ?_
                      refine tk 1 (some 20) (bitsA 41 3) hHeld ?_ (hy := Or.inl ⟨by rfl, by rintro w' ⟨s0, s1, s2, s3, s4, s5, s6, s7, s8⟩; go_simp; with_reducible rfl⟩)
                      refine one_ (i := 2) (N := some 21) (bitsA 41 7) rfl rfl (one_of HT_.out (by kernel_rfl)) (by decide) (fun K hK => ?_)
                      refine goes_ Try.func68 (by kernel_rfl) rfl #[.string ((rd_T81 l0 x3_1).f0)] (by rfl) rfl rfl mt ?_
                      with_reducible refine (spec_NameOk.calls k1 ((rd_T81 l0 x3_1).f0) true _ A8.out).mono ?_
                      rintro e w' ⟨rfl, ⟨nd, rfl⟩⟩
                      refine ⟨_, rfl, ?_⟩
                      refine hK.out _ _ ⟨bc BK185 0, bc BK185 1, bc BK185 2, (cw hw189_0), (cw hw189_1), (cw hw189_2), (cw hw190_0), (cw hw190_1), (cw hw190_2)⟩ (fun hHeld => ?_)
                      clear hK K
                      refine nm ?_
                      refine pu 3 (some 22) (bitsA 41 15) ?_
                      refine pu 4 (some 23) (bitsA 41 31) ?_
                      refine pu 5 (some 24) (bitsA 41 63) ?_
                      refine tk 6 (some 25) (bitsA 41 127) hHeld ?_ (hy := Or.inl ⟨by rfl, by rintro w' ⟨s0, s1, s2, s3, s4, s5, s6, s7, s8⟩; go_simp; with_reducible rfl⟩)
                      refine one_ (i := 7) (N := some 26) (bitsA 41 255) rfl rfl (one_of HT_.out (by kernel_rfl)) (by decide) (fun K hK => ?_)
                      refine goes_ Try.func68 (by kernel_rfl) rfl #[.string ((rd_T81 l0 x3_1).f1)] (by rfl) rfl rfl mt ?_
                      with_reducible refine (spec_NameOk.calls k1 ((rd_T81 l0 x3_1).f1) true _ A10.out).mono ?_
                      rintro e w' ⟨rfl, ⟨nd, rfl⟩⟩
                      refine ⟨_, rfl, ?_⟩
                      refine hK.out _ _ ⟨bc BK185 0, bc BK185 1, bc BK185 2, (cw hw189_0), (cw hw189_1), (cw hw189_2), (cw hw190_0), (cw hw190_1), (cw hw190_2)⟩ (fun hHeld => ?_)
                      clear hK K
                      refine nm ?_
                      refine pu 8 (some 27) (bitsA 41 511) ?_
                      refine pu 9 (some 28) (bitsA 41 1023) ?_
                      refine pu 10 (some 29) (bitsA 41 2047) ?_
                      refine pu 11 (some 30) (bitsA 41 4095) ?_
                      refine tk 12 (some 31) (bitsA 41 8191) hHeld ?_ (hy := Or.inl ⟨by rfl, by rintro w' ⟨s0, s1, s2, s3, s4, s5, s6, s7, s8⟩; go_simp; with_reducible rfl⟩)
                      refine pu 13 (some 32) (bitsA 41 16383) ?_
                      refine one_ (i := 14) (N := some 33) (bitsA 41 32767) rfl rfl (one_of HT_.out (by kernel_rfl)) (by decide) (fun K hK => ?_)
                      refine goes_ Try.func69 (by kernel_rfl) rfl #[.int .i64 (((rd_T81 l0 x3_1).f2).length : Int), .int .i64 1, .int .i64 12] (by rfl) rfl rfl mt ?_
                      with_reducible refine (spec_l01In.calls (((rd_T81 l0 x3_1).f2).length : Int) 1 12 true _ A12.out).mono ?_
                      rintro e w' ⟨rfl, ⟨nd, rfl⟩⟩
                      refine ⟨_, rfl, ?_⟩
                      refine hK.out _ _ ⟨bc BK185 0, bc BK185 1, bc BK185 2, (cw hw189_0), (cw hw189_1), (cw hw189_2), (cw hw190_0), (cw hw190_1), (cw hw190_2)⟩ (fun hHeld => ?_)
                      clear hK K
                      refine nm ?_
                      refine pu 15 (some 34) (bitsA 41 65535) ?_
                      refine pu 16 (some 35) (bitsA 41 131071) ?_
                      refine pu 17 (some 36) (bitsA 41 262143) ?_
                      refine pu 18 (some 37) (bitsA 41 524287) ?_
                      refine pu 19 (some 38) (bitsA 41 1048575) ?_
                      refine pu 20 (some 39) (bitsA 41 2097151) ?_
                      refine pu 21 (some 40) (bitsA 41 4194303) ?_
                      refine pu 22 (some 41) (bitsA 41 8388607) ?_
                      refine pu 23 (some 42) (bitsA 41 16777215) ?_
                      refine pu 24 (some 43) (bitsA 41 33554431) ?_
                      refine pu 25 (some 44) (bitsA 41 67108863) ?_
                      refine tk 26 (some 45) (bitsA 41 134217727) hHeld ?_ (hy := Or.inl ⟨by rfl, by rintro w' ⟨s0, s1, s2, s3, s4, s5, s6, s7, s8⟩; go_simp; with_reducible rfl⟩)
                      refine pu 27 (some 46) (bitsA 41 268435455) ?_
                      refine pu 28 (some 47) (bitsA 41 536870911) ?_
                      refine pu 29 (some 48) (bitsA 41 1073741823) ?_
                      refine pu 30 (some 49) (bitsA 41 2147483647) ?_
                      refine pu 31 (some 50) (bitsA 41 4294967295) ?_
                      refine tk 32 (some 51) (bitsA 41 8589934591) hHeld ?_ (hy := Or.inl ⟨by rfl, by rintro w' ⟨s0, s1, s2, s3, s4, s5, s6, s7, s8⟩; go_simp; with_reducible rfl⟩)
                      refine pu 33 (some 52) (bitsA 41 17179869183) ?_
                      refine tk 34 (some 53) (bitsA 41 34359738367) hHeld ?_ (hy := Or.inl ⟨by rfl, by rintro w' ⟨s0, s1, s2, s3, s4, s5, s6, s7, s8⟩; go_simp; with_reducible rfl⟩)
                      refine pu 35 (some 54) (bitsA 41 68719476735) ?_
                      refine tk 36 (some 55) (bitsA 41 137438953471) hHeld ?_ (hy := Or.inl ⟨by rfl, by rintro w' ⟨s0, s1, s2, s3, s4, s5, s6, s7, s8⟩; go_simp; with_reducible rfl⟩)
                      refine one_ (i := 37) (N := some 56) (bitsA 41 274877906943) rfl rfl (one_of HT_.out (by kernel_rfl)) (by decide) (fun K hK => ?_)
                      refine goes_ Try.func70 (by kernel_rfl) rfl #[.string ((rd_T81 l0 (ji15)).f0), .string ((rd_T81 l0 (ji15)).f1), .string ((rd_T81 l0 x3_1).f0), .string ((rd_T81 l0 x3_1).f1)] (by rfl) rfl rfl (by (try simp only [List.map_toArray, List.map_cons, List.map_nil]); first | done | (simp only [hji15]; rfl) | rfl | (simp only [List.length_drop, List.length_take]; rfl)) ?_
                      with_reducible refine (spec_l03Before.calls k1 ((rd_T81 l0 (ji15)).f0) ((rd_T81 l0 (ji15)).f1) ((rd_T81 l0 x3_1).f0) ((rd_T81 l0 x3_1).f1) t191 _ A18.out).mono ?_
                      rintro e w' ⟨rfl, ⟨nd, rfl⟩⟩
                      refine ⟨_, rfl, ?_⟩
                      refine hK.out _ _ ⟨bc BK185 0, bc BK185 1, bc BK185 2, (cw hw189_0), (cw hw189_1), (cw hw189_2), (cw hw190_0), (cw hw190_1), (cw hw190_2)⟩ (fun hHeld => ?_)
                      clear hK K
                      refine nm ?_
                      refine pu 38 (some 57) (bitsA 41 549755813887) ?_
                      refine pu 39 (some 58) (bitsA 41 1099511627775) ?_
                      refine pu 40 (some 59) (bitsA 41 2199023255551) ?_
                      refine done_ (done_of HT_.out (by kernel_rfl)) ?_
                      try go_wp2
                      go_meet
                      case rel => exact ⟨_, (!t191), es, H', ⟨ko⟩, ⟨bk BK185⟩, ⟨bl1 GE185⟩⟩
                    · rw [if_neg c17] at H
                      exact absurd H (by simp)
                  · rw [if_neg c16] at H
                    exact absurd H (by simp)
                · rw [if_neg c14] at H
                  have c14b0 : decide (0 < x3_1) = false := decide_eq_false c14
                  clear c14
                  (first | rw [c14b0] | (simp only [i64_w, i32_w]; rw [c14b0]) | skip)
                  have H' := Aside0.mk H
                  clear H
                  try go_wp2
                  have n0_ : Aside0 ((((w6.setCell ⟨gb185, 0, none⟩ (.string ((rd_T81 l0 x3_1).f0))).setCell ⟨gb185, 1, none⟩ (.string ((rd_T81 l0 x3_1).f1))).setCell ⟨gb185, 2, none⟩ (.slice A184_2 ((rd_T81 l0 x3_1).f2).length c184_2)).heap[gb185]? = some (.cells #[.string ((rd_T81 l0 x3_1).f0), .string ((rd_T81 l0 x3_1).f1), .slice A184_2 ((rd_T81 l0 x3_1).f2).length c184_2] 81 (0, 0))) := ⟨by (with_reducible repeat (first | refine blk_drewN ?_ _ | refine blk_drew ?_ | refine blk_alloc ?_ _)); refine blk_put (cs := #[.string ((rd_T81 l0 x3_1).f0), .string ((rd_T81 l0 x3_1).f1), .slice none 0 0]) ?_ 2 _ rfl; (with_reducible repeat (first | refine blk_drewN ?_ _ | refine blk_drew ?_ | refine blk_alloc ?_ _)); refine blk_put (cs := #[.string ((rd_T81 l0 x3_1).f0), .string (⟨#[]⟩ : ByteArray), .slice none 0 0]) ?_ 1 _ rfl; (with_reducible repeat (first | refine blk_drewN ?_ _ | refine blk_drew ?_ | refine blk_alloc ?_ _)); refine blk_put (cs := #[.string (⟨#[]⟩ : ByteArray), .string (⟨#[]⟩ : ByteArray), .slice none 0 0]) ?_ 0 _ rfl; (with_reducible repeat (first | refine blk_drewN ?_ _ | refine blk_drew ?_ | refine blk_alloc ?_ _)); exact BK185.out⟩
                  have n1_ : Aside0 (Below w.heap.size w (((w6.setCell ⟨gb185, 0, none⟩ (.string ((rd_T81 l0 x3_1).f0))).setCell ⟨gb185, 1, none⟩ (.string ((rd_T81 l0 x3_1).f1))).setCell ⟨gb185, 2, none⟩ (.slice A184_2 ((rd_T81 l0 x3_1).f2).length c184_2))) := ⟨bl1 GE185⟩
                  (try clear BK185)
                  (try clear HB)
                  generalize (((w6.setCell ⟨gb185, 0, none⟩ (.string ((rd_T81 l0 x3_1).f0))).setCell ⟨gb185, 1, none⟩ (.string ((rd_T81 l0 x3_1).f1))).setCell ⟨gb185, 2, none⟩ (.slice A184_2 ((rd_T81 l0 x3_1).f2).length c184_2)) = w21 at n0_ n1_ ⊢
                  have BK185 := n0_
                  have HB := n1_
                  clear n0_ n1_
                  replace BK185 := ak (blk_drew BK185.out)
                  replace HB := ak (below_drew1 HB.out)
                  refine start_ (n := 41) (S := fun w' => w'.cell? ⟨gb185, 0, none⟩ = some (.string ((rd_T81 l0 x3_1).f0)) ∧ w'.cell? ⟨gb185, 1, none⟩ = some (.string ((rd_T81 l0 x3_1).f1)) ∧ w'.cell? ⟨gb185, 2, none⟩ = some (.slice A184_2 ((rd_T81 l0 x3_1).f2).length c184_2)) (ds := []) (bitsA 41 0) (by kernel_rfl) rfl rfl ⟨bc BK185 0, bc BK185 1, bc BK185 2⟩ (fun hHeld => ?_); refine with_tabW spec_StoreOk.tab7 spec_StoreOk.bits7 (fun HT_ HW_ => ?_)
                  generalize w21.drew = w22 at BK185 HB hHeld ⊢
                  refine pu 0 (some 19) (bitsA 41 1) ?_
                  refine tk 1 (some 20) (bitsA 41 3) hHeld ?_ (hy := Or.inl ⟨by rfl, by rintro w' ⟨s0, s1, s2⟩; go_simp; with_reducible rfl⟩)
                  refine one_ (i := 2) (N := some 21) (bitsA 41 7) rfl rfl (one_of HT_.out (by kernel_rfl)) (by decide) (fun K hK => ?_)
                  refine goes_ Try.func68 (by kernel_rfl) rfl #[.string ((rd_T81 l0 x3_1).f0)] (by rfl) rfl rfl mt ?_
                  with_reducible refine (spec_NameOk.calls k1 ((rd_T81 l0 x3_1).f0) true _ A8.out).mono ?_
                  rintro e w' ⟨rfl, ⟨nd, rfl⟩⟩
                  refine ⟨_, rfl, ?_⟩
                  refine hK.out _ _ ⟨bc BK185 0, bc BK185 1, bc BK185 2⟩ (fun hHeld => ?_)
                  clear hK K
                  refine nm ?_
                  refine pu 3 (some 22) (bitsA 41 15) ?_
                  refine pu 4 (some 23) (bitsA 41 31) ?_
                  refine pu 5 (some 24) (bitsA 41 63) ?_
                  refine tk 6 (some 25) (bitsA 41 127) hHeld ?_ (hy := Or.inl ⟨by rfl, by rintro w' ⟨s0, s1, s2⟩; go_simp; with_reducible rfl⟩)
                  refine one_ (i := 7) (N := some 26) (bitsA 41 255) rfl rfl (one_of HT_.out (by kernel_rfl)) (by decide) (fun K hK => ?_)
                  refine goes_ Try.func68 (by kernel_rfl) rfl #[.string ((rd_T81 l0 x3_1).f1)] (by rfl) rfl rfl mt ?_
                  with_reducible refine (spec_NameOk.calls k1 ((rd_T81 l0 x3_1).f1) true _ A10.out).mono ?_
                  rintro e w' ⟨rfl, ⟨nd, rfl⟩⟩
                  refine ⟨_, rfl, ?_⟩
                  refine hK.out _ _ ⟨bc BK185 0, bc BK185 1, bc BK185 2⟩ (fun hHeld => ?_)
                  clear hK K
                  refine nm ?_
                  refine pu 8 (some 27) (bitsA 41 511) ?_
                  refine pu 9 (some 28) (bitsA 41 1023) ?_
                  refine pu 10 (some 29) (bitsA 41 2047) ?_
                  refine pu 11 (some 30) (bitsA 41 4095) ?_
                  refine tk 12 (some 31) (bitsA 41 8191) hHeld ?_ (hy := Or.inl ⟨by rfl, by rintro w' ⟨s0, s1, s2⟩; go_simp; with_reducible rfl⟩)
                  refine pu 13 (some 32) (bitsA 41 16383) ?_
                  refine one_ (i := 14) (N := some 33) (bitsA 41 32767) rfl rfl (one_of HT_.out (by kernel_rfl)) (by decide) (fun K hK => ?_)
                  refine goes_ Try.func69 (by kernel_rfl) rfl #[.int .i64 (((rd_T81 l0 x3_1).f2).length : Int), .int .i64 1, .int .i64 12] (by rfl) rfl rfl mt ?_
                  with_reducible refine (spec_l01In.calls (((rd_T81 l0 x3_1).f2).length : Int) 1 12 true _ A12.out).mono ?_
                  rintro e w' ⟨rfl, ⟨nd, rfl⟩⟩
                  refine ⟨_, rfl, ?_⟩
                  refine hK.out _ _ ⟨bc BK185 0, bc BK185 1, bc BK185 2⟩ (fun hHeld => ?_)
                  clear hK K
                  refine nm ?_
                  refine pu 15 (some 34) (bitsA 41 65535) ?_
                  refine pu 16 (some 35) (bitsA 41 131071) ?_
                  refine pu 17 (some 36) (bitsA 41 262143) ?_
                  refine pu 18 (some 37) (bitsA 41 524287) ?_
                  refine pu 19 (some 38) (bitsA 41 1048575) ?_
                  refine pu 20 (some 39) (bitsA 41 2097151) ?_
                  refine pure_ (i := 21) (N := some 40) (v := undef) (a' := ?_) (bitsA 41 4194303) rfl rfl (any_of HT_.out (by kernel_rfl)) (fun _ _ _ h => h) (Or.inr ⟨by rfl, rfl⟩) ?_ ?_; rotate_left; (· (simp only [Act.put, List.setIfInBounds_toArray, List.set_cons_zero, List.set_cons_succ, i64_w, i32_w]; rfl))
                  refine pure_ (i := 22) (N := some 41) (v := undef) (a' := ?_) (bitsA 41 8388607) rfl rfl (any_of HT_.out (by kernel_rfl)) (fun _ _ _ h => h) (Or.inr ⟨by rfl, rfl⟩) ?_ ?_; rotate_left; (· (simp only [Act.put, List.setIfInBounds_toArray, List.set_cons_zero, List.set_cons_succ, i64_w, i32_w]; rfl))
                  refine pure_ (i := 23) (N := some 42) (v := undef) (a' := ?_) (bitsA 41 16777215) rfl rfl (any_of HT_.out (by kernel_rfl)) (fun _ _ _ h => h) (Or.inr ⟨by rfl, rfl⟩) ?_ ?_; rotate_left; (· (simp only [Act.put, List.setIfInBounds_toArray, List.set_cons_zero, List.set_cons_succ, i64_w, i32_w]; rfl))
                  refine pure_ (i := 24) (N := some 43) (v := undef) (a' := ?_) (bitsA 41 33554431) rfl rfl (any_of HT_.out (by kernel_rfl)) (fun _ _ _ h => h) (Or.inr ⟨by rfl, rfl⟩) ?_ ?_; rotate_left; (· (simp only [Act.put, List.setIfInBounds_toArray, List.set_cons_zero, List.set_cons_succ, i64_w, i32_w]; rfl))
                  refine pure_ (i := 25) (N := some 44) (v := undef) (a' := ?_) (bitsA 41 67108863) rfl rfl (any_of HT_.out (by kernel_rfl)) (fun _ _ _ h => h) (Or.inr ⟨by rfl, rfl⟩) ?_ ?_; rotate_left; (· (simp only [Act.put, List.setIfInBounds_toArray, List.set_cons_zero, List.set_cons_succ, i64_w, i32_w]; rfl))
                  refine pure_ (i := 26) (N := some 45) (v := undef) (a' := ?_) (bitsA 41 134217727) rfl rfl (any_of HT_.out (by kernel_rfl)) (fun _ _ _ h => h) (Or.inr ⟨by rfl, rfl⟩) ?_ ?_; rotate_left; (· (simp only [Act.put, List.setIfInBounds_toArray, List.set_cons_zero, List.set_cons_succ, i64_w, i32_w]; rfl))
                  refine pure_ (i := 27) (N := some 46) (v := undef) (a' := ?_) (bitsA 41 268435455) rfl rfl (any_of HT_.out (by kernel_rfl)) (fun _ _ _ h => h) (Or.inr ⟨by rfl, rfl⟩) ?_ ?_; rotate_left; (· (simp only [Act.put, List.setIfInBounds_toArray, List.set_cons_zero, List.set_cons_succ, i64_w, i32_w]; rfl))
                  refine pure_ (i := 28) (N := some 47) (v := undef) (a' := ?_) (bitsA 41 536870911) rfl rfl (any_of HT_.out (by kernel_rfl)) (fun _ _ _ h => h) (Or.inr ⟨by rfl, rfl⟩) ?_ ?_; rotate_left; (· (simp only [Act.put, List.setIfInBounds_toArray, List.set_cons_zero, List.set_cons_succ, i64_w, i32_w]; rfl))
                  refine pure_ (i := 29) (N := some 48) (v := undef) (a' := ?_) (bitsA 41 1073741823) rfl rfl (any_of HT_.out (by kernel_rfl)) (fun _ _ _ h => h) (Or.inr ⟨by rfl, rfl⟩) ?_ ?_; rotate_left; (· (simp only [Act.put, List.setIfInBounds_toArray, List.set_cons_zero, List.set_cons_succ, i64_w, i32_w]; rfl))
                  refine pure_ (i := 30) (N := some 49) (v := undef) (a' := ?_) (bitsA 41 2147483647) rfl rfl (any_of HT_.out (by kernel_rfl)) (fun _ _ _ h => h) (Or.inr ⟨by rfl, rfl⟩) ?_ ?_; rotate_left; (· (simp only [Act.put, List.setIfInBounds_toArray, List.set_cons_zero, List.set_cons_succ, i64_w, i32_w]; rfl))
                  refine pure_ (i := 31) (N := some 50) (v := undef) (a' := ?_) (bitsA 41 4294967295) rfl rfl (any_of HT_.out (by kernel_rfl)) (fun _ _ _ h => h) (Or.inr ⟨by rfl, rfl⟩) ?_ ?_; rotate_left; (· (simp only [Act.put, List.setIfInBounds_toArray, List.set_cons_zero, List.set_cons_succ, i64_w, i32_w]; rfl))
                  refine pure_ (i := 32) (N := some 51) (v := undef) (a' := ?_) (bitsA 41 8589934591) rfl rfl (any_of HT_.out (by kernel_rfl)) (fun _ _ _ h => h) (Or.inr ⟨by rfl, rfl⟩) ?_ ?_; rotate_left; (· (simp only [Act.put, List.setIfInBounds_toArray, List.set_cons_zero, List.set_cons_succ, i64_w, i32_w]; rfl))
                  refine pure_ (i := 33) (N := some 52) (v := undef) (a' := ?_) (bitsA 41 17179869183) rfl rfl (any_of HT_.out (by kernel_rfl)) (fun _ _ _ h => h) (Or.inr ⟨by rfl, rfl⟩) ?_ ?_; rotate_left; (· (simp only [Act.put, List.setIfInBounds_toArray, List.set_cons_zero, List.set_cons_succ, i64_w, i32_w]; rfl))
                  refine pure_ (i := 34) (N := some 53) (v := undef) (a' := ?_) (bitsA 41 34359738367) rfl rfl (any_of HT_.out (by kernel_rfl)) (fun _ _ _ h => h) (Or.inr ⟨by rfl, rfl⟩) ?_ ?_; rotate_left; (· (simp only [Act.put, List.setIfInBounds_toArray, List.set_cons_zero, List.set_cons_succ, i64_w, i32_w]; rfl))
                  refine pure_ (i := 35) (N := some 54) (v := undef) (a' := ?_) (bitsA 41 68719476735) rfl rfl (any_of HT_.out (by kernel_rfl)) (fun _ _ _ h => h) (Or.inr ⟨by rfl, rfl⟩) ?_ ?_; rotate_left; (· (simp only [Act.put, List.setIfInBounds_toArray, List.set_cons_zero, List.set_cons_succ, i64_w, i32_w]; rfl))
                  refine pure_ (i := 36) (N := some 55) (v := undef) (a' := ?_) (bitsA 41 137438953471) rfl rfl (any_of HT_.out (by kernel_rfl)) (fun _ _ _ h => h) (Or.inr ⟨by rfl, rfl⟩) ?_ ?_; rotate_left; (· (simp only [Act.put, List.setIfInBounds_toArray, List.set_cons_zero, List.set_cons_succ, i64_w, i32_w]; rfl))
                  refine pure_ (i := 37) (N := some 56) (v := undef) (a' := ?_) (bitsA 41 274877906943) rfl rfl (any_of HT_.out (by kernel_rfl)) (fun _ _ _ h => h) (Or.inr ⟨by rfl, rfl⟩) ?_ ?_; rotate_left; (· (simp only [Act.put, List.setIfInBounds_toArray, List.set_cons_zero, List.set_cons_succ, i64_w, i32_w]; rfl))
                  refine pure_ (i := 38) (N := some 57) (v := undef) (a' := ?_) (bitsA 41 549755813887) rfl rfl (any_of HT_.out (by kernel_rfl)) (fun _ _ _ h => h) (Or.inr ⟨by rfl, rfl⟩) ?_ ?_; rotate_left; (· (simp only [Act.put, List.setIfInBounds_toArray, List.set_cons_zero, List.set_cons_succ, i64_w, i32_w]; rfl))
                  refine pu 39 (some 58) (bitsA 41 1099511627775) ?_
                  refine pu 40 (some 59) (bitsA 41 2199023255551) ?_
                  refine done_ (done_of HT_.out (by kernel_rfl)) ?_
                  try go_wp2
                  go_meet
                  case rel => exact ⟨_, (false), es, H', ⟨ko⟩, ⟨bk BK185⟩, ⟨bl1 GE185⟩⟩
              · replace c13 := Bool.eq_false_iff.mpr c13
                subst c13
                replace H := iF H
                have H' := Aside0.mk H
                clear H
                try go_wp2
                have n0_ : Aside0 ((((w6.setCell ⟨gb185, 0, none⟩ (.string ((rd_T81 l0 x3_1).f0))).setCell ⟨gb185, 1, none⟩ (.string ((rd_T81 l0 x3_1).f1))).setCell ⟨gb185, 2, none⟩ (.slice A184_2 ((rd_T81 l0 x3_1).f2).length c184_2)).heap[gb185]? = some (.cells #[.string ((rd_T81 l0 x3_1).f0), .string ((rd_T81 l0 x3_1).f1), .slice A184_2 ((rd_T81 l0 x3_1).f2).length c184_2] 81 (0, 0))) := ⟨by (with_reducible repeat (first | refine blk_drewN ?_ _ | refine blk_drew ?_ | refine blk_alloc ?_ _)); refine blk_put (cs := #[.string ((rd_T81 l0 x3_1).f0), .string ((rd_T81 l0 x3_1).f1), .slice none 0 0]) ?_ 2 _ rfl; (with_reducible repeat (first | refine blk_drewN ?_ _ | refine blk_drew ?_ | refine blk_alloc ?_ _)); refine blk_put (cs := #[.string ((rd_T81 l0 x3_1).f0), .string (⟨#[]⟩ : ByteArray), .slice none 0 0]) ?_ 1 _ rfl; (with_reducible repeat (first | refine blk_drewN ?_ _ | refine blk_drew ?_ | refine blk_alloc ?_ _)); refine blk_put (cs := #[.string (⟨#[]⟩ : ByteArray), .string (⟨#[]⟩ : ByteArray), .slice none 0 0]) ?_ 0 _ rfl; (with_reducible repeat (first | refine blk_drewN ?_ _ | refine blk_drew ?_ | refine blk_alloc ?_ _)); exact BK185.out⟩
                have n1_ : Aside0 (Below w.heap.size w (((w6.setCell ⟨gb185, 0, none⟩ (.string ((rd_T81 l0 x3_1).f0))).setCell ⟨gb185, 1, none⟩ (.string ((rd_T81 l0 x3_1).f1))).setCell ⟨gb185, 2, none⟩ (.slice A184_2 ((rd_T81 l0 x3_1).f2).length c184_2))) := ⟨bl1 GE185⟩
                (try clear BK185)
                (try clear HB)
                generalize (((w6.setCell ⟨gb185, 0, none⟩ (.string ((rd_T81 l0 x3_1).f0))).setCell ⟨gb185, 1, none⟩ (.string ((rd_T81 l0 x3_1).f1))).setCell ⟨gb185, 2, none⟩ (.slice A184_2 ((rd_T81 l0 x3_1).f2).length c184_2)) = w23 at n0_ n1_ ⊢
                have BK185 := n0_
                have HB := n1_
                clear n0_ n1_
                replace BK185 := ak (blk_drew BK185.out)
                replace HB := ak (below_drew1 HB.out)
                refine start_ (n := 41) (S := fun w' => w'.cell? ⟨gb185, 0, none⟩ = some (.string ((rd_T81 l0 x3_1).f0)) ∧ w'.cell? ⟨gb185, 1, none⟩ = some (.string ((rd_T81 l0 x3_1).f1)) ∧ w'.cell? ⟨gb185, 2, none⟩ = some (.slice A184_2 ((rd_T81 l0 x3_1).f2).length c184_2)) (ds := []) (bitsA 41 0) (by kernel_rfl) rfl rfl ⟨bc BK185 0, bc BK185 1, bc BK185 2⟩ (fun hHeld => ?_); refine with_tabW spec_StoreOk.tab7 spec_StoreOk.bits7 (fun HT_ HW_ => ?_)
                generalize w23.drew = w24 at BK185 HB hHeld ⊢
                refine pu 0 (some 19) (bitsA 41 1) ?_
                refine tk 1 (some 20) (bitsA 41 3) hHeld ?_ (hy := Or.inl ⟨by rfl, by rintro w' ⟨s0, s1, s2⟩; go_simp; with_reducible rfl⟩)
                refine one_ (i := 2) (N := some 21) (bitsA 41 7) rfl rfl (one_of HT_.out (by kernel_rfl)) (by decide) (fun K hK => ?_)
                refine goes_ Try.func68 (by kernel_rfl) rfl #[.string ((rd_T81 l0 x3_1).f0)] (by rfl) rfl rfl mt ?_
                with_reducible refine (spec_NameOk.calls k1 ((rd_T81 l0 x3_1).f0) true _ A8.out).mono ?_
                rintro e w' ⟨rfl, ⟨nd, rfl⟩⟩
                refine ⟨_, rfl, ?_⟩
                refine hK.out _ _ ⟨bc BK185 0, bc BK185 1, bc BK185 2⟩ (fun hHeld => ?_)
                clear hK K
                refine nm ?_
                refine pu 3 (some 22) (bitsA 41 15) ?_
                refine pu 4 (some 23) (bitsA 41 31) ?_
                refine pu 5 (some 24) (bitsA 41 63) ?_
                refine tk 6 (some 25) (bitsA 41 127) hHeld ?_ (hy := Or.inl ⟨by rfl, by rintro w' ⟨s0, s1, s2⟩; go_simp; with_reducible rfl⟩)
                refine one_ (i := 7) (N := some 26) (bitsA 41 255) rfl rfl (one_of HT_.out (by kernel_rfl)) (by decide) (fun K hK => ?_)
                refine goes_ Try.func68 (by kernel_rfl) rfl #[.string ((rd_T81 l0 x3_1).f1)] (by rfl) rfl rfl mt ?_
                with_reducible refine (spec_NameOk.calls k1 ((rd_T81 l0 x3_1).f1) true _ A10.out).mono ?_
                rintro e w' ⟨rfl, ⟨nd, rfl⟩⟩
                refine ⟨_, rfl, ?_⟩
                refine hK.out _ _ ⟨bc BK185 0, bc BK185 1, bc BK185 2⟩ (fun hHeld => ?_)
                clear hK K
                refine nm ?_
                refine pu 8 (some 27) (bitsA 41 511) ?_
                refine pu 9 (some 28) (bitsA 41 1023) ?_
                refine pu 10 (some 29) (bitsA 41 2047) ?_
                refine pu 11 (some 30) (bitsA 41 4095) ?_
                refine tk 12 (some 31) (bitsA 41 8191) hHeld ?_ (hy := Or.inl ⟨by rfl, by rintro w' ⟨s0, s1, s2⟩; go_simp; with_reducible rfl⟩)
                refine pu 13 (some 32) (bitsA 41 16383) ?_
                refine one_ (i := 14) (N := some 33) (bitsA 41 32767) rfl rfl (one_of HT_.out (by kernel_rfl)) (by decide) (fun K hK => ?_)
                refine goes_ Try.func69 (by kernel_rfl) rfl #[.int .i64 (((rd_T81 l0 x3_1).f2).length : Int), .int .i64 1, .int .i64 12] (by rfl) rfl rfl mt ?_
                with_reducible refine (spec_l01In.calls (((rd_T81 l0 x3_1).f2).length : Int) 1 12 false _ A12.out).mono ?_
                rintro e w' ⟨rfl, ⟨nd, rfl⟩⟩
                refine ⟨_, rfl, ?_⟩
                refine hK.out _ _ ⟨bc BK185 0, bc BK185 1, bc BK185 2⟩ (fun hHeld => ?_)
                clear hK K
                refine nm ?_
                refine pu 15 (some 34) (bitsA 41 65535) ?_
                refine pu 16 (some 35) (bitsA 41 131071) ?_
                refine pu 17 (some 36) (bitsA 41 262143) ?_
                refine pure_ (i := 18) (N := some 37) (v := undef) (a' := ?_) (bitsA 41 524287) rfl rfl (any_of HT_.out (by kernel_rfl)) (fun _ _ _ h => h) (Or.inr ⟨by rfl, rfl⟩) ?_ ?_; rotate_left; (· (simp only [Act.put, List.setIfInBounds_toArray, List.set_cons_zero, List.set_cons_succ, i64_w, i32_w]; rfl))
                refine pure_ (i := 19) (N := some 38) (v := undef) (a' := ?_) (bitsA 41 1048575) rfl rfl (any_of HT_.out (by kernel_rfl)) (fun _ _ _ h => h) (Or.inr ⟨by rfl, rfl⟩) ?_ ?_; rotate_left; (· (simp only [Act.put, List.setIfInBounds_toArray, List.set_cons_zero, List.set_cons_succ, i64_w, i32_w]; rfl))
                refine pure_ (i := 20) (N := some 39) (v := undef) (a' := ?_) (bitsA 41 2097151) rfl rfl (any_of HT_.out (by kernel_rfl)) (fun _ _ _ h => h) (Or.inr ⟨by rfl, rfl⟩) ?_ ?_; rotate_left; (· (simp only [Act.put, List.setIfInBounds_toArray, List.set_cons_zero, List.set_cons_succ, i64_w, i32_w]; rfl))
                refine pure_ (i := 21) (N := some 40) (v := undef) (a' := ?_) (bitsA 41 4194303) rfl rfl (any_of HT_.out (by kernel_rfl)) (fun _ _ _ h => h) (Or.inr ⟨by rfl, rfl⟩) ?_ ?_; rotate_left; (· (simp only [Act.put, List.setIfInBounds_toArray, List.set_cons_zero, List.set_cons_succ, i64_w, i32_w]; rfl))
                refine pure_ (i := 22) (N := some 41) (v := undef) (a' := ?_) (bitsA 41 8388607) rfl rfl (any_of HT_.out (by kernel_rfl)) (fun _ _ _ h => h) (Or.inr ⟨by rfl, rfl⟩) ?_ ?_; rotate_left; (· (simp only [Act.put, List.setIfInBounds_toArray, List.set_cons_zero, List.set_cons_succ, i64_w, i32_w]; rfl))
                refine pure_ (i := 23) (N := some 42) (v := undef) (a' := ?_) (bitsA 41 16777215) rfl rfl (any_of HT_.out (by kernel_rfl)) (fun _ _ _ h => h) (Or.inr ⟨by rfl, rfl⟩) ?_ ?_; rotate_left; (· (simp only [Act.put, List.setIfInBounds_toArray, List.set_cons_zero, List.set_cons_succ, i64_w, i32_w]; rfl))
                refine pure_ (i := 24) (N := some 43) (v := undef) (a' := ?_) (bitsA 41 33554431) rfl rfl (any_of HT_.out (by kernel_rfl)) (fun _ _ _ h => h) (Or.inr ⟨by rfl, rfl⟩) ?_ ?_; rotate_left; (· (simp only [Act.put, List.setIfInBounds_toArray, List.set_cons_zero, List.set_cons_succ, i64_w, i32_w]; rfl))
                refine pure_ (i := 25) (N := some 44) (v := undef) (a' := ?_) (bitsA 41 67108863) rfl rfl (any_of HT_.out (by kernel_rfl)) (fun _ _ _ h => h) (Or.inr ⟨by rfl, rfl⟩) ?_ ?_; rotate_left; (· (simp only [Act.put, List.setIfInBounds_toArray, List.set_cons_zero, List.set_cons_succ, i64_w, i32_w]; rfl))
                refine pure_ (i := 26) (N := some 45) (v := undef) (a' := ?_) (bitsA 41 134217727) rfl rfl (any_of HT_.out (by kernel_rfl)) (fun _ _ _ h => h) (Or.inr ⟨by rfl, rfl⟩) ?_ ?_; rotate_left; (· (simp only [Act.put, List.setIfInBounds_toArray, List.set_cons_zero, List.set_cons_succ, i64_w, i32_w]; rfl))
                refine pure_ (i := 27) (N := some 46) (v := undef) (a' := ?_) (bitsA 41 268435455) rfl rfl (any_of HT_.out (by kernel_rfl)) (fun _ _ _ h => h) (Or.inr ⟨by rfl, rfl⟩) ?_ ?_; rotate_left; (· (simp only [Act.put, List.setIfInBounds_toArray, List.set_cons_zero, List.set_cons_succ, i64_w, i32_w]; rfl))
                refine pure_ (i := 28) (N := some 47) (v := undef) (a' := ?_) (bitsA 41 536870911) rfl rfl (any_of HT_.out (by kernel_rfl)) (fun _ _ _ h => h) (Or.inr ⟨by rfl, rfl⟩) ?_ ?_; rotate_left; (· (simp only [Act.put, List.setIfInBounds_toArray, List.set_cons_zero, List.set_cons_succ, i64_w, i32_w]; rfl))
                refine pure_ (i := 29) (N := some 48) (v := undef) (a' := ?_) (bitsA 41 1073741823) rfl rfl (any_of HT_.out (by kernel_rfl)) (fun _ _ _ h => h) (Or.inr ⟨by rfl, rfl⟩) ?_ ?_; rotate_left; (· (simp only [Act.put, List.setIfInBounds_toArray, List.set_cons_zero, List.set_cons_succ, i64_w, i32_w]; rfl))
                refine pure_ (i := 30) (N := some 49) (v := undef) (a' := ?_) (bitsA 41 2147483647) rfl rfl (any_of HT_.out (by kernel_rfl)) (fun _ _ _ h => h) (Or.inr ⟨by rfl, rfl⟩) ?_ ?_; rotate_left; (· (simp only [Act.put, List.setIfInBounds_toArray, List.set_cons_zero, List.set_cons_succ, i64_w, i32_w]; rfl))
                refine pure_ (i := 31) (N := some 50) (v := undef) (a' := ?_) (bitsA 41 4294967295) rfl rfl (any_of HT_.out (by kernel_rfl)) (fun _ _ _ h => h) (Or.inr ⟨by rfl, rfl⟩) ?_ ?_; rotate_left; (· (simp only [Act.put, List.setIfInBounds_toArray, List.set_cons_zero, List.set_cons_succ, i64_w, i32_w]; rfl))
                refine pure_ (i := 32) (N := some 51) (v := undef) (a' := ?_) (bitsA 41 8589934591) rfl rfl (any_of HT_.out (by kernel_rfl)) (fun _ _ _ h => h) (Or.inr ⟨by rfl, rfl⟩) ?_ ?_; rotate_left; (· (simp only [Act.put, List.setIfInBounds_toArray, List.set_cons_zero, List.set_cons_succ, i64_w, i32_w]; rfl))
                refine pure_ (i := 33) (N := some 52) (v := undef) (a' := ?_) (bitsA 41 17179869183) rfl rfl (any_of HT_.out (by kernel_rfl)) (fun _ _ _ h => h) (Or.inr ⟨by rfl, rfl⟩) ?_ ?_; rotate_left; (· (simp only [Act.put, List.setIfInBounds_toArray, List.set_cons_zero, List.set_cons_succ, i64_w, i32_w]; rfl))
                refine pure_ (i := 34) (N := some 53) (v := undef) (a' := ?_) (bitsA 41 34359738367) rfl rfl (any_of HT_.out (by kernel_rfl)) (fun _ _ _ h => h) (Or.inr ⟨by rfl, rfl⟩) ?_ ?_; rotate_left; (· (simp only [Act.put, List.setIfInBounds_toArray, List.set_cons_zero, List.set_cons_succ, i64_w, i32_w]; rfl))
                refine pure_ (i := 35) (N := some 54) (v := undef) (a' := ?_) (bitsA 41 68719476735) rfl rfl (any_of HT_.out (by kernel_rfl)) (fun _ _ _ h => h) (Or.inr ⟨by rfl, rfl⟩) ?_ ?_; rotate_left; (· (simp only [Act.put, List.setIfInBounds_toArray, List.set_cons_zero, List.set_cons_succ, i64_w, i32_w]; rfl))
                refine pure_ (i := 36) (N := some 55) (v := undef) (a' := ?_) (bitsA 41 137438953471) rfl rfl (any_of HT_.out (by kernel_rfl)) (fun _ _ _ h => h) (Or.inr ⟨by rfl, rfl⟩) ?_ ?_; rotate_left; (· (simp only [Act.put, List.setIfInBounds_toArray, List.set_cons_zero, List.set_cons_succ, i64_w, i32_w]; rfl))
                refine pure_ (i := 37) (N := some 56) (v := undef) (a' := ?_) (bitsA 41 274877906943) rfl rfl (any_of HT_.out (by kernel_rfl)) (fun _ _ _ h => h) (Or.inr ⟨by rfl, rfl⟩) ?_ ?_; rotate_left; (· (simp only [Act.put, List.setIfInBounds_toArray, List.set_cons_zero, List.set_cons_succ, i64_w, i32_w]; rfl))
                refine pure_ (i := 38) (N := some 57) (v := undef) (a' := ?_) (bitsA 41 549755813887) rfl rfl (any_of HT_.out (by kernel_rfl)) (fun _ _ _ h => h) (Or.inr ⟨by rfl, rfl⟩) ?_ ?_; rotate_left; (· (simp only [Act.put, List.setIfInBounds_toArray, List.set_cons_zero, List.set_cons_succ, i64_w, i32_w]; rfl))
                refine pure_ (i := 39) (N := some 58) (v := undef) (a' := ?_) (bitsA 41 1099511627775) rfl rfl (any_of HT_.out (by kernel_rfl)) (fun _ _ _ h => h) (Or.inr ⟨by rfl, rfl⟩) ?_ ?_; rotate_left; (· (simp only [Act.put, List.setIfInBounds_toArray, List.set_cons_zero, List.set_cons_succ, i64_w, i32_w]; rfl))
                refine pu 40 (some 59) (bitsA 41 2199023255551) ?_
                refine done_ (done_of HT_.out (by kernel_rfl)) ?_
                try go_wp2
                go_meet
                case rel => exact ⟨_, (true), es, H', ⟨ko⟩, ⟨bk BK185⟩, ⟨bl1 GE185⟩⟩
            · replace c11 := Bool.eq_false_iff.mpr c11
              subst c11
              replace H := iF H
              have H' := Aside0.mk H
              clear H
              try go_wp2
              have n0_ : Aside0 ((((w6.setCell ⟨gb185, 0, none⟩ (.string ((rd_T81 l0 x3_1).f0))).setCell ⟨gb185, 1, none⟩ (.string ((rd_T81 l0 x3_1).f1))).setCell ⟨gb185, 2, none⟩ (.slice A184_2 ((rd_T81 l0 x3_1).f2).length c184_2)).heap[gb185]? = some (.cells #[.string ((rd_T81 l0 x3_1).f0), .string ((rd_T81 l0 x3_1).f1), .slice A184_2 ((rd_T81 l0 x3_1).f2).length c184_2] 81 (0, 0))) := ⟨by (with_reducible repeat (first | refine blk_drewN ?_ _ | refine blk_drew ?_ | refine blk_alloc ?_ _)); refine blk_put (cs := #[.string ((rd_T81 l0 x3_1).f0), .string ((rd_T81 l0 x3_1).f1), .slice none 0 0]) ?_ 2 _ rfl; (with_reducible repeat (first | refine blk_drewN ?_ _ | refine blk_drew ?_ | refine blk_alloc ?_ _)); refine blk_put (cs := #[.string ((rd_T81 l0 x3_1).f0), .string (⟨#[]⟩ : ByteArray), .slice none 0 0]) ?_ 1 _ rfl; (with_reducible repeat (first | refine blk_drewN ?_ _ | refine blk_drew ?_ | refine blk_alloc ?_ _)); refine blk_put (cs := #[.string (⟨#[]⟩ : ByteArray), .string (⟨#[]⟩ : ByteArray), .slice none 0 0]) ?_ 0 _ rfl; (with_reducible repeat (first | refine blk_drewN ?_ _ | refine blk_drew ?_ | refine blk_alloc ?_ _)); exact BK185.out⟩
              have n1_ : Aside0 (Below w.heap.size w (((w6.setCell ⟨gb185, 0, none⟩ (.string ((rd_T81 l0 x3_1).f0))).setCell ⟨gb185, 1, none⟩ (.string ((rd_T81 l0 x3_1).f1))).setCell ⟨gb185, 2, none⟩ (.slice A184_2 ((rd_T81 l0 x3_1).f2).length c184_2))) := ⟨bl1 GE185⟩
              (try clear BK185)
              (try clear HB)
              generalize (((w6.setCell ⟨gb185, 0, none⟩ (.string ((rd_T81 l0 x3_1).f0))).setCell ⟨gb185, 1, none⟩ (.string ((rd_T81 l0 x3_1).f1))).setCell ⟨gb185, 2, none⟩ (.slice A184_2 ((rd_T81 l0 x3_1).f2).length c184_2)) = w25 at n0_ n1_ ⊢
              have BK185 := n0_
              have HB := n1_
              clear n0_ n1_
              replace BK185 := ak (blk_drew BK185.out)
              replace HB := ak (below_drew1 HB.out)
              refine start_ (n := 41) (S := fun w' => w'.cell? ⟨gb185, 0, none⟩ = some (.string ((rd_T81 l0 x3_1).f0)) ∧ w'.cell? ⟨gb185, 1, none⟩ = some (.string ((rd_T81 l0 x3_1).f1)) ∧ w'.cell? ⟨gb185, 2, none⟩ = some (.slice A184_2 ((rd_T81 l0 x3_1).f2).length c184_2)) (ds := []) (bitsA 41 0) (by kernel_rfl) rfl rfl ⟨bc BK185 0, bc BK185 1, bc BK185 2⟩ (fun hHeld => ?_); refine with_tabW spec_StoreOk.tab7 spec_StoreOk.bits7 (fun HT_ HW_ => ?_)
              generalize w25.drew = w26 at BK185 HB hHeld ⊢
              refine pu 0 (some 19) (bitsA 41 1) ?_
              refine tk 1 (some 20) (bitsA 41 3) hHeld ?_ (hy := Or.inl ⟨by rfl, by rintro w' ⟨s0, s1, s2⟩; go_simp; with_reducible rfl⟩)
              refine one_ (i := 2) (N := some 21) (bitsA 41 7) rfl rfl (one_of HT_.out (by kernel_rfl)) (by decide) (fun K hK => ?_)
              refine goes_ Try.func68 (by kernel_rfl) rfl #[.string ((rd_T81 l0 x3_1).f0)] (by rfl) rfl rfl mt ?_
              with_reducible refine (spec_NameOk.calls k1 ((rd_T81 l0 x3_1).f0) true _ A8.out).mono ?_
              rintro e w' ⟨rfl, ⟨nd, rfl⟩⟩
              refine ⟨_, rfl, ?_⟩
              refine hK.out _ _ ⟨bc BK185 0, bc BK185 1, bc BK185 2⟩ (fun hHeld => ?_)
              clear hK K
              refine nm ?_
              refine pu 3 (some 22) (bitsA 41 15) ?_
              refine pu 4 (some 23) (bitsA 41 31) ?_
              refine pu 5 (some 24) (bitsA 41 63) ?_
              refine tk 6 (some 25) (bitsA 41 127) hHeld ?_ (hy := Or.inl ⟨by rfl, by rintro w' ⟨s0, s1, s2⟩; go_simp; with_reducible rfl⟩)
              refine one_ (i := 7) (N := some 26) (bitsA 41 255) rfl rfl (one_of HT_.out (by kernel_rfl)) (by decide) (fun K hK => ?_)
              refine goes_ Try.func68 (by kernel_rfl) rfl #[.string ((rd_T81 l0 x3_1).f1)] (by rfl) rfl rfl mt ?_
              with_reducible refine (spec_NameOk.calls k1 ((rd_T81 l0 x3_1).f1) false _ A10.out).mono ?_
              rintro e w' ⟨rfl, ⟨nd, rfl⟩⟩
              refine ⟨_, rfl, ?_⟩
              refine hK.out _ _ ⟨bc BK185 0, bc BK185 1, bc BK185 2⟩ (fun hHeld => ?_)
              clear hK K
              refine nm ?_
              refine pu 8 (some 27) (bitsA 41 511) ?_
              refine pu 9 (some 28) (bitsA 41 1023) ?_
              refine pu 10 (some 29) (bitsA 41 2047) ?_
              refine pure_ (i := 11) (N := some 30) (v := undef) (a' := ?_) (bitsA 41 4095) rfl rfl (any_of HT_.out (by kernel_rfl)) (fun _ _ _ h => h) (Or.inr ⟨by rfl, rfl⟩) ?_ ?_; rotate_left; (· (simp only [Act.put, List.setIfInBounds_toArray, List.set_cons_zero, List.set_cons_succ, i64_w, i32_w]; rfl))
              refine pure_ (i := 12) (N := some 31) (v := undef) (a' := ?_) (bitsA 41 8191) rfl rfl (any_of HT_.out (by kernel_rfl)) (fun _ _ _ h => h) (Or.inr ⟨by rfl, rfl⟩) ?_ ?_; rotate_left; (· (simp only [Act.put, List.setIfInBounds_toArray, List.set_cons_zero, List.set_cons_succ, i64_w, i32_w]; rfl))
              refine pure_ (i := 13) (N := some 32) (v := undef) (a' := ?_) (bitsA 41 16383) rfl rfl (any_of HT_.out (by kernel_rfl)) (fun _ _ _ h => h) (Or.inr ⟨by rfl, rfl⟩) ?_ ?_; rotate_left; (· (simp only [Act.put, List.setIfInBounds_toArray, List.set_cons_zero, List.set_cons_succ, i64_w, i32_w]; rfl))
              refine pure_ (i := 14) (N := some 33) (v := undef) (a' := ?_) (bitsA 41 32767) rfl rfl (any_of HT_.out (by kernel_rfl)) (fun _ _ _ h => h) (Or.inr ⟨by rfl, rfl⟩) ?_ ?_; rotate_left; (· (simp only [Act.put, List.setIfInBounds_toArray, List.set_cons_zero, List.set_cons_succ, i64_w, i32_w]; rfl))
              refine pure_ (i := 15) (N := some 34) (v := undef) (a' := ?_) (bitsA 41 65535) rfl rfl (any_of HT_.out (by kernel_rfl)) (fun _ _ _ h => h) (Or.inr ⟨by rfl, rfl⟩) ?_ ?_; rotate_left; (· (simp only [Act.put, List.setIfInBounds_toArray, List.set_cons_zero, List.set_cons_succ, i64_w, i32_w]; rfl))
              refine pu 16 (some 35) (bitsA 41 131071) ?_
              refine pu 17 (some 36) (bitsA 41 262143) ?_
              refine pure_ (i := 18) (N := some 37) (v := undef) (a' := ?_) (bitsA 41 524287) rfl rfl (any_of HT_.out (by kernel_rfl)) (fun _ _ _ h => h) (Or.inr ⟨by rfl, rfl⟩) ?_ ?_; rotate_left; (· (simp only [Act.put, List.setIfInBounds_toArray, List.set_cons_zero, List.set_cons_succ, i64_w, i32_w]; rfl))
              refine pure_ (i := 19) (N := some 38) (v := undef) (a' := ?_) (bitsA 41 1048575) rfl rfl (any_of HT_.out (by kernel_rfl)) (fun _ _ _ h => h) (Or.inr ⟨by rfl, rfl⟩) ?_ ?_; rotate_left; (· (simp only [Act.put, List.setIfInBounds_toArray, List.set_cons_zero, List.set_cons_succ, i64_w, i32_w]; rfl))
              refine pure_ (i := 20) (N := some 39) (v := undef) (a' := ?_) (bitsA 41 2097151) rfl rfl (any_of HT_.out (by kernel_rfl)) (fun _ _ _ h => h) (Or.inr ⟨by rfl, rfl⟩) ?_ ?_; rotate_left; (· (simp only [Act.put, List.setIfInBounds_toArray, List.set_cons_zero, List.set_cons_succ, i64_w, i32_w]; rfl))
              refine pure_ (i := 21) (N := some 40) (v := undef) (a' := ?_) (bitsA 41 4194303) rfl rfl (any_of HT_.out (by kernel_rfl)) (fun _ _ _ h => h) (Or.inr ⟨by rfl, rfl⟩) ?_ ?_; rotate_left; (· (simp only [Act.put, List.setIfInBounds_toArray, List.set_cons_zero, List.set_cons_succ, i64_w, i32_w]; rfl))
              refine pure_ (i := 22) (N := some 41) (v := undef) (a' := ?_) (bitsA 41 8388607) rfl rfl (any_of HT_.out (by kernel_rfl)) (fun _ _ _ h => h) (Or.inr ⟨by rfl, rfl⟩) ?_ ?_; rotate_left; (· (simp only [Act.put, List.setIfInBounds_toArray, List.set_cons_zero, List.set_cons_succ, i64_w, i32_w]; rfl))
              refine pure_ (i := 23) (N := some 42) (v := undef) (a' := ?_) (bitsA 41 16777215) rfl rfl (any_of HT_.out (by kernel_rfl)) (fun _ _ _ h => h) (Or.inr ⟨by rfl, rfl⟩) ?_ ?_; rotate_left; (· (simp only [Act.put, List.setIfInBounds_toArray, List.set_cons_zero, List.set_cons_succ, i64_w, i32_w]; rfl))
              refine pure_ (i := 24) (N := some 43) (v := undef) (a' := ?_) (bitsA 41 33554431) rfl rfl (any_of HT_.out (by kernel_rfl)) (fun _ _ _ h => h) (Or.inr ⟨by rfl, rfl⟩) ?_ ?_; rotate_left; (· (simp only [Act.put, List.setIfInBounds_toArray, List.set_cons_zero, List.set_cons_succ, i64_w, i32_w]; rfl))
              refine pure_ (i := 25) (N := some 44) (v := undef) (a' := ?_) (bitsA 41 67108863) rfl rfl (any_of HT_.out (by kernel_rfl)) (fun _ _ _ h => h) (Or.inr ⟨by rfl, rfl⟩) ?_ ?_; rotate_left; (· (simp only [Act.put, List.setIfInBounds_toArray, List.set_cons_zero, List.set_cons_succ, i64_w, i32_w]; rfl))
              refine pure_ (i := 26) (N := some 45) (v := undef) (a' := ?_) (bitsA 41 134217727) rfl rfl (any_of HT_.out (by kernel_rfl)) (fun _ _ _ h => h) (Or.inr ⟨by rfl, rfl⟩) ?_ ?_; rotate_left; (· (simp only [Act.put, List.setIfInBounds_toArray, List.set_cons_zero, List.set_cons_succ, i64_w, i32_w]; rfl))
              refine pure_ (i := 27) (N := some 46) (v := undef) (a' := ?_) (bitsA 41 268435455) rfl rfl (any_of HT_.out (by kernel_rfl)) (fun _ _ _ h => h) (Or.inr ⟨by rfl, rfl⟩) ?_ ?_; rotate_left; (· (simp only [Act.put, List.setIfInBounds_toArray, List.set_cons_zero, List.set_cons_succ, i64_w, i32_w]; rfl))
              refine pure_ (i := 28) (N := some 47) (v := undef) (a' := ?_) (bitsA 41 536870911) rfl rfl (any_of HT_.out (by kernel_rfl)) (fun _ _ _ h => h) (Or.inr ⟨by rfl, rfl⟩) ?_ ?_; rotate_left; (· (simp only [Act.put, List.setIfInBounds_toArray, List.set_cons_zero, List.set_cons_succ, i64_w, i32_w]; rfl))
              refine pure_ (i := 29) (N := some 48) (v := undef) (a' := ?_) (bitsA 41 1073741823) rfl rfl (any_of HT_.out (by kernel_rfl)) (fun _ _ _ h => h) (Or.inr ⟨by rfl, rfl⟩) ?_ ?_; rotate_left; (· (simp only [Act.put, List.setIfInBounds_toArray, List.set_cons_zero, List.set_cons_succ, i64_w, i32_w]; rfl))
              refine pure_ (i := 30) (N := some 49) (v := undef) (a' := ?_) (bitsA 41 2147483647) rfl rfl (any_of HT_.out (by kernel_rfl)) (fun _ _ _ h => h) (Or.inr ⟨by rfl, rfl⟩) ?_ ?_; rotate_left; (· (simp only [Act.put, List.setIfInBounds_toArray, List.set_cons_zero, List.set_cons_succ, i64_w, i32_w]; rfl))
              refine pure_ (i := 31) (N := some 50) (v := undef) (a' := ?_) (bitsA 41 4294967295) rfl rfl (any_of HT_.out (by kernel_rfl)) (fun _ _ _ h => h) (Or.inr ⟨by rfl, rfl⟩) ?_ ?_; rotate_left; (· (simp only [Act.put, List.setIfInBounds_toArray, List.set_cons_zero, List.set_cons_succ, i64_w, i32_w]; rfl))
              refine pure_ (i := 32) (N := some 51) (v := undef) (a' := ?_) (bitsA 41 8589934591) rfl rfl (any_of HT_.out (by kernel_rfl)) (fun _ _ _ h => h) (Or.inr ⟨by rfl, rfl⟩) ?_ ?_; rotate_left; (· (simp only [Act.put, List.setIfInBounds_toArray, List.set_cons_zero, List.set_cons_succ, i64_w, i32_w]; rfl))
              refine pure_ (i := 33) (N := some 52) (v := undef) (a' := ?_) (bitsA 41 17179869183) rfl rfl (any_of HT_.out (by kernel_rfl)) (fun _ _ _ h => h) (Or.inr ⟨by rfl, rfl⟩) ?_ ?_; rotate_left; (· (simp only [Act.put, List.setIfInBounds_toArray, List.set_cons_zero, List.set_cons_succ, i64_w, i32_w]; rfl))
              refine pure_ (i := 34) (N := some 53) (v := undef) (a' := ?_) (bitsA 41 34359738367) rfl rfl (any_of HT_.out (by kernel_rfl)) (fun _ _ _ h => h) (Or.inr ⟨by rfl, rfl⟩) ?_ ?_; rotate_left; (· (simp only [Act.put, List.setIfInBounds_toArray, List.set_cons_zero, List.set_cons_succ, i64_w, i32_w]; rfl))
              refine pure_ (i := 35) (N := some 54) (v := undef) (a' := ?_) (bitsA 41 68719476735) rfl rfl (any_of HT_.out (by kernel_rfl)) (fun _ _ _ h => h) (Or.inr ⟨by rfl, rfl⟩) ?_ ?_; rotate_left; (· (simp only [Act.put, List.setIfInBounds_toArray, List.set_cons_zero, List.set_cons_succ, i64_w, i32_w]; rfl))
              refine pure_ (i := 36) (N := some 55) (v := undef) (a' := ?_) (bitsA 41 137438953471) rfl rfl (any_of HT_.out (by kernel_rfl)) (fun _ _ _ h => h) (Or.inr ⟨by rfl, rfl⟩) ?_ ?_; rotate_left; (· (simp only [Act.put, List.setIfInBounds_toArray, List.set_cons_zero, List.set_cons_succ, i64_w, i32_w]; rfl))
              refine pure_ (i := 37) (N := some 56) (v := undef) (a' := ?_) (bitsA 41 274877906943) rfl rfl (any_of HT_.out (by kernel_rfl)) (fun _ _ _ h => h) (Or.inr ⟨by rfl, rfl⟩) ?_ ?_; rotate_left; (· (simp only [Act.put, List.setIfInBounds_toArray, List.set_cons_zero, List.set_cons_succ, i64_w, i32_w]; rfl))
              refine pure_ (i := 38) (N := some 57) (v := undef) (a' := ?_) (bitsA 41 549755813887) rfl rfl (any_of HT_.out (by kernel_rfl)) (fun _ _ _ h => h) (Or.inr ⟨by rfl, rfl⟩) ?_ ?_; rotate_left; (· (simp only [Act.put, List.setIfInBounds_toArray, List.set_cons_zero, List.set_cons_succ, i64_w, i32_w]; rfl))
              refine pure_ (i := 39) (N := some 58) (v := undef) (a' := ?_) (bitsA 41 1099511627775) rfl rfl (any_of HT_.out (by kernel_rfl)) (fun _ _ _ h => h) (Or.inr ⟨by rfl, rfl⟩) ?_ ?_; rotate_left; (· (simp only [Act.put, List.setIfInBounds_toArray, List.set_cons_zero, List.set_cons_succ, i64_w, i32_w]; rfl))
              refine pu 40 (some 59) (bitsA 41 2199023255551) ?_
              refine done_ (done_of HT_.out (by kernel_rfl)) ?_
              try go_wp2
              go_meet
              case rel => exact ⟨_, (true), es, H', ⟨ko⟩, ⟨bk BK185⟩, ⟨bl1 GE185⟩⟩
          · replace c9 := Bool.eq_false_iff.mpr c9
            subst c9
            replace H := iF H
            have H' := Aside0.mk H
            clear H
            try go_wp2
            have n0_ : Aside0 ((((w6.setCell ⟨gb185, 0, none⟩ (.string ((rd_T81 l0 x3_1).f0))).setCell ⟨gb185, 1, none⟩ (.string ((rd_T81 l0 x3_1).f1))).setCell ⟨gb185, 2, none⟩ (.slice A184_2 ((rd_T81 l0 x3_1).f2).length c184_2)).heap[gb185]? = some (.cells #[.string ((rd_T81 l0 x3_1).f0), .string ((rd_T81 l0 x3_1).f1), .slice A184_2 ((rd_T81 l0 x3_1).f2).length c184_2] 81 (0, 0))) := ⟨by (with_reducible repeat (first | refine blk_drewN ?_ _ | refine blk_drew ?_ | refine blk_alloc ?_ _)); refine blk_put (cs := #[.string ((rd_T81 l0 x3_1).f0), .string ((rd_T81 l0 x3_1).f1), .slice none 0 0]) ?_ 2 _ rfl; (with_reducible repeat (first | refine blk_drewN ?_ _ | refine blk_drew ?_ | refine blk_alloc ?_ _)); refine blk_put (cs := #[.string ((rd_T81 l0 x3_1).f0), .string (⟨#[]⟩ : ByteArray), .slice none 0 0]) ?_ 1 _ rfl; (with_reducible repeat (first | refine blk_drewN ?_ _ | refine blk_drew ?_ | refine blk_alloc ?_ _)); refine blk_put (cs := #[.string (⟨#[]⟩ : ByteArray), .string (⟨#[]⟩ : ByteArray), .slice none 0 0]) ?_ 0 _ rfl; (with_reducible repeat (first | refine blk_drewN ?_ _ | refine blk_drew ?_ | refine blk_alloc ?_ _)); exact BK185.out⟩
            have n1_ : Aside0 (Below w.heap.size w (((w6.setCell ⟨gb185, 0, none⟩ (.string ((rd_T81 l0 x3_1).f0))).setCell ⟨gb185, 1, none⟩ (.string ((rd_T81 l0 x3_1).f1))).setCell ⟨gb185, 2, none⟩ (.slice A184_2 ((rd_T81 l0 x3_1).f2).length c184_2))) := ⟨bl1 GE185⟩
            (try clear BK185)
            (try clear HB)
            generalize (((w6.setCell ⟨gb185, 0, none⟩ (.string ((rd_T81 l0 x3_1).f0))).setCell ⟨gb185, 1, none⟩ (.string ((rd_T81 l0 x3_1).f1))).setCell ⟨gb185, 2, none⟩ (.slice A184_2 ((rd_T81 l0 x3_1).f2).length c184_2)) = w27 at n0_ n1_ ⊢
            have BK185 := n0_
            have HB := n1_
            clear n0_ n1_
            replace BK185 := ak (blk_drew BK185.out)
            replace HB := ak (below_drew1 HB.out)
            refine start_ (n := 41) (S := fun w' => w'.cell? ⟨gb185, 0, none⟩ = some (.string ((rd_T81 l0 x3_1).f0)) ∧ w'.cell? ⟨gb185, 1, none⟩ = some (.string ((rd_T81 l0 x3_1).f1)) ∧ w'.cell? ⟨gb185, 2, none⟩ = some (.slice A184_2 ((rd_T81 l0 x3_1).f2).length c184_2)) (ds := []) (bitsA 41 0) (by kernel_rfl) rfl rfl ⟨bc BK185 0, bc BK185 1, bc BK185 2⟩ (fun hHeld => ?_); refine with_tabW spec_StoreOk.tab7 spec_StoreOk.bits7 (fun HT_ HW_ => ?_)
            generalize w27.drew = w28 at BK185 HB hHeld ⊢
            refine pu 0 (some 19) (bitsA 41 1) ?_
            refine tk 1 (some 20) (bitsA 41 3) hHeld ?_ (hy := Or.inl ⟨by rfl, by rintro w' ⟨s0, s1, s2⟩; go_simp; with_reducible rfl⟩)
            refine one_ (i := 2) (N := some 21) (bitsA 41 7) rfl rfl (one_of HT_.out (by kernel_rfl)) (by decide) (fun K hK => ?_)
            refine goes_ Try.func68 (by kernel_rfl) rfl #[.string ((rd_T81 l0 x3_1).f0)] (by rfl) rfl rfl mt ?_
            with_reducible refine (spec_NameOk.calls k1 ((rd_T81 l0 x3_1).f0) false _ A8.out).mono ?_
            rintro e w' ⟨rfl, ⟨nd, rfl⟩⟩
            refine ⟨_, rfl, ?_⟩
            refine hK.out _ _ ⟨bc BK185 0, bc BK185 1, bc BK185 2⟩ (fun hHeld => ?_)
            clear hK K
            refine nm ?_
            refine pu 3 (some 22) (bitsA 41 15) ?_
            refine pu 4 (some 23) (bitsA 41 31) ?_
            refine pure_ (i := 5) (N := some 24) (v := undef) (a' := ?_) (bitsA 41 63) rfl rfl (any_of HT_.out (by kernel_rfl)) (fun _ _ _ h => h) (Or.inr ⟨by rfl, rfl⟩) ?_ ?_; rotate_left; (· (simp only [Act.put, List.setIfInBounds_toArray, List.set_cons_zero, List.set_cons_succ, i64_w, i32_w]; rfl))
            refine pure_ (i := 6) (N := some 25) (v := undef) (a' := ?_) (bitsA 41 127) rfl rfl (any_of HT_.out (by kernel_rfl)) (fun _ _ _ h => h) (Or.inr ⟨by rfl, rfl⟩) ?_ ?_; rotate_left; (· (simp only [Act.put, List.setIfInBounds_toArray, List.set_cons_zero, List.set_cons_succ, i64_w, i32_w]; rfl))
            refine pure_ (i := 7) (N := some 26) (v := undef) (a' := ?_) (bitsA 41 255) rfl rfl (any_of HT_.out (by kernel_rfl)) (fun _ _ _ h => h) (Or.inr ⟨by rfl, rfl⟩) ?_ ?_; rotate_left; (· (simp only [Act.put, List.setIfInBounds_toArray, List.set_cons_zero, List.set_cons_succ, i64_w, i32_w]; rfl))
            refine pure_ (i := 8) (N := some 27) (v := undef) (a' := ?_) (bitsA 41 511) rfl rfl (any_of HT_.out (by kernel_rfl)) (fun _ _ _ h => h) (Or.inr ⟨by rfl, rfl⟩) ?_ ?_; rotate_left; (· (simp only [Act.put, List.setIfInBounds_toArray, List.set_cons_zero, List.set_cons_succ, i64_w, i32_w]; rfl))
            refine pu 9 (some 28) (bitsA 41 1023) ?_
            refine pu 10 (some 29) (bitsA 41 2047) ?_
            refine pure_ (i := 11) (N := some 30) (v := undef) (a' := ?_) (bitsA 41 4095) rfl rfl (any_of HT_.out (by kernel_rfl)) (fun _ _ _ h => h) (Or.inr ⟨by rfl, rfl⟩) ?_ ?_; rotate_left; (· (simp only [Act.put, List.setIfInBounds_toArray, List.set_cons_zero, List.set_cons_succ, i64_w, i32_w]; rfl))
            refine pure_ (i := 12) (N := some 31) (v := undef) (a' := ?_) (bitsA 41 8191) rfl rfl (any_of HT_.out (by kernel_rfl)) (fun _ _ _ h => h) (Or.inr ⟨by rfl, rfl⟩) ?_ ?_; rotate_left; (· (simp only [Act.put, List.setIfInBounds_toArray, List.set_cons_zero, List.set_cons_succ, i64_w, i32_w]; rfl))
            refine pure_ (i := 13) (N := some 32) (v := undef) (a' := ?_) (bitsA 41 16383) rfl rfl (any_of HT_.out (by kernel_rfl)) (fun _ _ _ h => h) (Or.inr ⟨by rfl, rfl⟩) ?_ ?_; rotate_left; (· (simp only [Act.put, List.setIfInBounds_toArray, List.set_cons_zero, List.set_cons_succ, i64_w, i32_w]; rfl))
            refine pure_ (i := 14) (N := some 33) (v := undef) (a' := ?_) (bitsA 41 32767) rfl rfl (any_of HT_.out (by kernel_rfl)) (fun _ _ _ h => h) (Or.inr ⟨by rfl, rfl⟩) ?_ ?_; rotate_left; (· (simp only [Act.put, List.setIfInBounds_toArray, List.set_cons_zero, List.set_cons_succ, i64_w, i32_w]; rfl))
            refine pure_ (i := 15) (N := some 34) (v := undef) (a' := ?_) (bitsA 41 65535) rfl rfl (any_of HT_.out (by kernel_rfl)) (fun _ _ _ h => h) (Or.inr ⟨by rfl, rfl⟩) ?_ ?_; rotate_left; (· (simp only [Act.put, List.setIfInBounds_toArray, List.set_cons_zero, List.set_cons_succ, i64_w, i32_w]; rfl))
            refine pu 16 (some 35) (bitsA 41 131071) ?_
            refine pu 17 (some 36) (bitsA 41 262143) ?_
            refine pure_ (i := 18) (N := some 37) (v := undef) (a' := ?_) (bitsA 41 524287) rfl rfl (any_of HT_.out (by kernel_rfl)) (fun _ _ _ h => h) (Or.inr ⟨by rfl, rfl⟩) ?_ ?_; rotate_left; (· (simp only [Act.put, List.setIfInBounds_toArray, List.set_cons_zero, List.set_cons_succ, i64_w, i32_w]; rfl))
            refine pure_ (i := 19) (N := some 38) (v := undef) (a' := ?_) (bitsA 41 1048575) rfl rfl (any_of HT_.out (by kernel_rfl)) (fun _ _ _ h => h) (Or.inr ⟨by rfl, rfl⟩) ?_ ?_; rotate_left; (· (simp only [Act.put, List.setIfInBounds_toArray, List.set_cons_zero, List.set_cons_succ, i64_w, i32_w]; rfl))
            refine pure_ (i := 20) (N := some 39) (v := undef) (a' := ?_) (bitsA 41 2097151) rfl rfl (any_of HT_.out (by kernel_rfl)) (fun _ _ _ h => h) (Or.inr ⟨by rfl, rfl⟩) ?_ ?_; rotate_left; (· (simp only [Act.put, List.setIfInBounds_toArray, List.set_cons_zero, List.set_cons_succ, i64_w, i32_w]; rfl))
            refine pure_ (i := 21) (N := some 40) (v := undef) (a' := ?_) (bitsA 41 4194303) rfl rfl (any_of HT_.out (by kernel_rfl)) (fun _ _ _ h => h) (Or.inr ⟨by rfl, rfl⟩) ?_ ?_; rotate_left; (· (simp only [Act.put, List.setIfInBounds_toArray, List.set_cons_zero, List.set_cons_succ, i64_w, i32_w]; rfl))
            refine pure_ (i := 22) (N := some 41) (v := undef) (a' := ?_) (bitsA 41 8388607) rfl rfl (any_of HT_.out (by kernel_rfl)) (fun _ _ _ h => h) (Or.inr ⟨by rfl, rfl⟩) ?_ ?_; rotate_left; (· (simp only [Act.put, List.setIfInBounds_toArray, List.set_cons_zero, List.set_cons_succ, i64_w, i32_w]; rfl))
            refine pure_ (i := 23) (N := some 42) (v := undef) (a' := ?_) (bitsA 41 16777215) rfl rfl (any_of HT_.out (by kernel_rfl)) (fun _ _ _ h => h) (Or.inr ⟨by rfl, rfl⟩) ?_ ?_; rotate_left; (· (simp only [Act.put, List.setIfInBounds_toArray, List.set_cons_zero, List.set_cons_succ, i64_w, i32_w]; rfl))
            refine pure_ (i := 24) (N := some 43) (v := undef) (a' := ?_) (bitsA 41 33554431) rfl rfl (any_of HT_.out (by kernel_rfl)) (fun _ _ _ h => h) (Or.inr ⟨by rfl, rfl⟩) ?_ ?_; rotate_left; (· (simp only [Act.put, List.setIfInBounds_toArray, List.set_cons_zero, List.set_cons_succ, i64_w, i32_w]; rfl))
            refine pure_ (i := 25) (N := some 44) (v := undef) (a' := ?_) (bitsA 41 67108863) rfl rfl (any_of HT_.out (by kernel_rfl)) (fun _ _ _ h => h) (Or.inr ⟨by rfl, rfl⟩) ?_ ?_; rotate_left; (· (simp only [Act.put, List.setIfInBounds_toArray, List.set_cons_zero, List.set_cons_succ, i64_w, i32_w]; rfl))
            refine pure_ (i := 26) (N := some 45) (v := undef) (a' := ?_) (bitsA 41 134217727) rfl rfl (any_of HT_.out (by kernel_rfl)) (fun _ _ _ h => h) (Or.inr ⟨by rfl, rfl⟩) ?_ ?_; rotate_left; (· (simp only [Act.put, List.setIfInBounds_toArray, List.set_cons_zero, List.set_cons_succ, i64_w, i32_w]; rfl))
            refine pure_ (i := 27) (N := some 46) (v := undef) (a' := ?_) (bitsA 41 268435455) rfl rfl (any_of HT_.out (by kernel_rfl)) (fun _ _ _ h => h) (Or.inr ⟨by rfl, rfl⟩) ?_ ?_; rotate_left; (· (simp only [Act.put, List.setIfInBounds_toArray, List.set_cons_zero, List.set_cons_succ, i64_w, i32_w]; rfl))
            refine pure_ (i := 28) (N := some 47) (v := undef) (a' := ?_) (bitsA 41 536870911) rfl rfl (any_of HT_.out (by kernel_rfl)) (fun _ _ _ h => h) (Or.inr ⟨by rfl, rfl⟩) ?_ ?_; rotate_left; (· (simp only [Act.put, List.setIfInBounds_toArray, List.set_cons_zero, List.set_cons_succ, i64_w, i32_w]; rfl))
            refine pure_ (i := 29) (N := some 48) (v := undef) (a' := ?_) (bitsA 41 1073741823) rfl rfl (any_of HT_.out (by kernel_rfl)) (fun _ _ _ h => h) (Or.inr ⟨by rfl, rfl⟩) ?_ ?_; rotate_left; (· (simp only [Act.put, List.setIfInBounds_toArray, List.set_cons_zero, List.set_cons_succ, i64_w, i32_w]; rfl))
            refine pure_ (i := 30) (N := some 49) (v := undef) (a' := ?_) (bitsA 41 2147483647) rfl rfl (any_of HT_.out (by kernel_rfl)) (fun _ _ _ h => h) (Or.inr ⟨by rfl, rfl⟩) ?_ ?_; rotate_left; (· (simp only [Act.put, List.setIfInBounds_toArray, List.set_cons_zero, List.set_cons_succ, i64_w, i32_w]; rfl))
            refine pure_ (i := 31) (N := some 50) (v := undef) (a' := ?_) (bitsA 41 4294967295) rfl rfl (any_of HT_.out (by kernel_rfl)) (fun _ _ _ h => h) (Or.inr ⟨by rfl, rfl⟩) ?_ ?_; rotate_left; (· (simp only [Act.put, List.setIfInBounds_toArray, List.set_cons_zero, List.set_cons_succ, i64_w, i32_w]; rfl))
            refine pure_ (i := 32) (N := some 51) (v := undef) (a' := ?_) (bitsA 41 8589934591) rfl rfl (any_of HT_.out (by kernel_rfl)) (fun _ _ _ h => h) (Or.inr ⟨by rfl, rfl⟩) ?_ ?_; rotate_left; (· (simp only [Act.put, List.setIfInBounds_toArray, List.set_cons_zero, List.set_cons_succ, i64_w, i32_w]; rfl))
            refine pure_ (i := 33) (N := some 52) (v := undef) (a' := ?_) (bitsA 41 17179869183) rfl rfl (any_of HT_.out (by kernel_rfl)) (fun _ _ _ h => h) (Or.inr ⟨by rfl, rfl⟩) ?_ ?_; rotate_left; (· (simp only [Act.put, List.setIfInBounds_toArray, List.set_cons_zero, List.set_cons_succ, i64_w, i32_w]; rfl))
            refine pure_ (i := 34) (N := some 53) (v := undef) (a' := ?_) (bitsA 41 34359738367) rfl rfl (any_of HT_.out (by kernel_rfl)) (fun _ _ _ h => h) (Or.inr ⟨by rfl, rfl⟩) ?_ ?_; rotate_left; (· (simp only [Act.put, List.setIfInBounds_toArray, List.set_cons_zero, List.set_cons_succ, i64_w, i32_w]; rfl))
            refine pure_ (i := 35) (N := some 54) (v := undef) (a' := ?_) (bitsA 41 68719476735) rfl rfl (any_of HT_.out (by kernel_rfl)) (fun _ _ _ h => h) (Or.inr ⟨by rfl, rfl⟩) ?_ ?_; rotate_left; (· (simp only [Act.put, List.setIfInBounds_toArray, List.set_cons_zero, List.set_cons_succ, i64_w, i32_w]; rfl))
            refine pure_ (i := 36) (N := some 55) (v := undef) (a' := ?_) (bitsA 41 137438953471) rfl rfl (any_of HT_.out (by kernel_rfl)) (fun _ _ _ h => h) (Or.inr ⟨by rfl, rfl⟩) ?_ ?_; rotate_left; (· (simp only [Act.put, List.setIfInBounds_toArray, List.set_cons_zero, List.set_cons_succ, i64_w, i32_w]; rfl))
            refine pure_ (i := 37) (N := some 56) (v := undef) (a' := ?_) (bitsA 41 274877906943) rfl rfl (any_of HT_.out (by kernel_rfl)) (fun _ _ _ h => h) (Or.inr ⟨by rfl, rfl⟩) ?_ ?_; rotate_left; (· (simp only [Act.put, List.setIfInBounds_toArray, List.set_cons_zero, List.set_cons_succ, i64_w, i32_w]; rfl))
            refine pure_ (i := 38) (N := some 57) (v := undef) (a' := ?_) (bitsA 41 549755813887) rfl rfl (any_of HT_.out (by kernel_rfl)) (fun _ _ _ h => h) (Or.inr ⟨by rfl, rfl⟩) ?_ ?_; rotate_left; (· (simp only [Act.put, List.setIfInBounds_toArray, List.set_cons_zero, List.set_cons_succ, i64_w, i32_w]; rfl))
            refine pure_ (i := 39) (N := some 58) (v := undef) (a' := ?_) (bitsA 41 1099511627775) rfl rfl (any_of HT_.out (by kernel_rfl)) (fun _ _ _ h => h) (Or.inr ⟨by rfl, rfl⟩) ?_ ?_; rotate_left; (· (simp only [Act.put, List.setIfInBounds_toArray, List.set_cons_zero, List.set_cons_succ, i64_w, i32_w]; rfl))
            refine pu 40 (some 59) (bitsA 41 2199023255551) ?_
            refine done_ (done_of HT_.out (by kernel_rfl)) ?_
            try go_wp2
            go_meet
            case rel => exact ⟨_, (true), es, H', ⟨ko⟩, ⟨bk BK185⟩, ⟨bl1 GE185⟩⟩
         case rest =>
          clear HC5
          try clear c1
          try clear p2
          try clear c6
          try clear c9
          try clear c11
          try clear c18
          obtain ⟨kq, x59_4, rfl, HA, HJ4, BK185, HB⟩ := hcut
          cases kq with
          | zero => exact absurd HA.out (by simp [spec_StoreOk.j1])
          | succ kj4 =>
           have H := HA.out
           clear HA
           simp only [spec_StoreOk.j1] at H
           by_cases c29 : x59_4 = true
           · subst c29
             replace H := iT H
             obtain rfl := Option.some.inj H
             go_wp2
             go_ret
             exact ⟨ew, bl1 GE185⟩
           · replace c29 := Bool.eq_false_iff.mpr c29
             subst c29
             replace H := iF H
             have H' := Aside0.mk H
             clear H
             go_wp2
             go_loopg [5] kj4 (fun kq v5 w' => ∃ (x5_3 : Int), v5 = .int .i64 x5_3 ∧ Aside0 (spec_StoreOk.l1 kq l0 x3_1 x5_3 ((rd_T81 l0 x3_1).f0) ((rd_T81 l0 x3_1).f1) ((rd_T81 l0 x3_1).f2) = some r) ∧ Aside0 (kq ≤ kj4) ∧ Aside0 (w'.heap[gb185]? = some (.cells #[.string ((rd_T81 l0 x3_1).f0), .string ((rd_T81 l0 x3_1).f1), (.slice A184_2 ((rd_T81 l0 x3_1).f2).length c184_2)] 81 (0, 0))) ∧ Aside0 (Below w.heap.size w w'))
             case atStart => exact ⟨(0), es, H', ⟨Nat.le_refl _⟩, ⟨bk BK185⟩, ⟨bl1 GE185⟩⟩
             case round =>
              clear H'
              try clear c1
              try clear c2
              try clear p2
              try clear c6
              try clear c9
              try clear c11
              try clear c18
              try clear c29
              try clear p2
              obtain ⟨x5_3, rfl, HA, HK3, BK185, HB⟩ := hrel
              cases gk with
              | zero => exact absurd HA.out (by simp [spec_StoreOk.l1])
              | succ k3 =>
               have H := HA.out
               clear HA
               simp only [spec_StoreOk.l1] at H
               by_cases c30 : x5_3 < (((rd_T81 l0 x3_1).f2).length : Int)
               · rw [if_pos c30] at H
                 have c30b0 : decide (x5_3 < (((rd_T81 l0 x3_1).f2).length : Int)) = true := decide_eq_true c30
                 clear c30
                 by_cases c31 : 0 ≤ x5_3
                 · rw [if_pos c31] at H
                   have c31b0 : decide (0 ≤ x5_3) = true := decide_eq_true c31
                   clear c31
                   obtain ⟨t193, A320, H⟩ := bo H
                   have A32 := Aside0.mk A320
                   clear A320
                   by_cases c33 : t193 = true
                   · subst c33
                     replace H := iT H
                     obtain ⟨t195, A340, H⟩ := bo H
                     have A34 := Aside0.mk A340
                     clear A340
                     by_cases c35 : t195 = true
                     · subst c35
                       replace H := iT H
                       by_cases c36 : x5_3 > 0
                       · rw [if_pos c36] at H
                         have c36b0 : decide (0 < x5_3) = true := decide_eq_true c36
                         clear c36
                         obtain ⟨ji37, hji37⟩ : ∃ j_ : Int, (wrap64 (x5_3 - 1)) = j_ := ⟨_, rfl⟩
                         replace H : (if 0 ≤ (ji37) then (if (ji37) < (((rd_T81 l0 x3_1).f2).length : Int) then (if ((rd_T37 ((rd_T81 l0 x3_1).f2) (ji37)).f0) ≥ ((rd_T37 ((rd_T81 l0 x3_1).f2) x5_3).f0) then (some false) else (spec_StoreOk.l1 k3 l0 x3_1 (wrap64 (x5_3 + 1)) ((rd_T81 l0 x3_1).f0) ((rd_T81 l0 x3_1).f1) ((rd_T81 l0 x3_1).f2))) else (none)) else (none)) = some r := by first | (rw [hji37] at H; exact H) | (simp only [hji37] at H ⊢; exact H)
                         (try rw [hji37] at A32)
                         (try rw [hji37] at A34)
                         have hji37w : (IntKind.i64.wrap (x5_3 - 1)) = ji37 := (i64_w _).trans hji37
                         by_cases c38 : 0 ≤ (ji37)
                         · rw [if_pos c38] at H
                           have c38b0 : decide (0 ≤ (ji37)) = true := decide_eq_true c38
                           clear c38
                           by_cases c39 : (ji37) < (((rd_T81 l0 x3_1).f2).length : Int)
                           · rw [if_pos c39] at H
                             have c39b0 : decide ((ji37) < (((rd_T81 l0 x3_1).f2).length : Int)) = true := decide_eq_true c39
                             clear c39
                             by_cases c40 : ((rd_T37 ((rd_T81 l0 x3_1).f2) (ji37)).f0) ≥ ((rd_T37 ((rd_T81 l0 x3_1).f2) x5_3).f0)
                             · rw [if_pos c40] at H
                               have c40b0 : decide (((rd_T37 ((rd_T81 l0 x3_1).f2) x5_3).f0) ≤ ((rd_T37 ((rd_T81 l0 x3_1).f2) (ji37)).f0)) = true := decide_eq_true c40
                               clear c40
                               obtain rfl := Option.some.inj H
                               obtain ⟨hcz41_0, hcz41_1, hcz41_2, hfz41_0, hfz41_1, hfz41_2⟩ := cz3 BK185
                               try go_wp2
                               replace BK185 := ak (blk_drew BK185.out)
                               replace HB := ak (below_drew1 HB.out)
                               have p192 : 0 ≤ (x5_3 : Int) := of_decide_eq_true am
                               have q192 : x5_3 < (((rd_T81 l0 x3_1).f2).length : Int) := of_decide_eq_true am
                               obtain ⟨ad192, e192, hx192_0, hx192_1⟩ := at_T37 HR184_2.out x5_3 p192 q192
                               have hw192_1 := hx192_1
                               have hw192_0 := hx192_0
                               cases e192
                               replace hx192_0 := cw hx192_0
                               replace hx192_1 := cw hx192_1
                               replace p192 := eq_true p192
                               replace q192 := eq_true q192
                               have p194 : 0 ≤ (x5_3 : Int) := of_decide_eq_true am
                               have q194 : x5_3 < (((rd_T81 l0 x3_1).f2).length : Int) := of_decide_eq_true am
                               obtain ⟨ad194, e194, hx194_0, hx194_1⟩ := at_T37 HR184_2.out x5_3 p194 q194
                               have hw194_1 := hx194_1
                               have hw194_0 := hx194_0
                               obtain rfl : ad192 = ad194 := (by injection e194)
                               replace hx194_0 := cw hx194_0
                               replace hx194_1 := cw hx194_1
                               replace p194 := eq_true p194
                               replace q194 := eq_true q194
                               have p196 : 0 ≤ ((ji37) : Int) := of_decide_eq_true am
                               have q196 : (ji37) < (((rd_T81 l0 x3_1).f2).length : Int) := of_decide_eq_true am
                               obtain ⟨ad196, e196, hx196_0, hx196_1⟩ := at_T37 HR184_2.out (ji37) p196 q196
                               have hw196_1 := hx196_1
                               have hw196_0 := hx196_0
                               obtain rfl : ad192 = ad196 := (by injection e196)
                               replace hx196_0 := cw hx196_0
                               replace hx196_1 := cw hx196_1
                               replace p196 := eq_true p196
                               replace q196 := eq_true q196
                               have p197 : 0 ≤ (x5_3 : Int) := of_decide_eq_true am
                               have q197 : x5_3 < (((rd_T81 l0 x3_1).f2).length : Int) := of_decide_eq_true am
                               obtain ⟨ad197, e197, hx197_0, hx197_1⟩ := at_T37 HR184_2.out x5_3 p197 q197
                               have hw197_1 := hx197_1
                               have hw197_0 := hx197_0
                               obtain rfl : ad192 = ad197 := (by injection e197)
                               replace hx197_0 := cw hx197_0
                               replace hx197_1 := cw hx197_1
                               replace p197 := eq_true p197
                               replace q197 := eq_true q197
                               refine start_ (n := 38) (S := fun w' => w'.cell? ⟨gb185, 0, none⟩ = some (.string ((rd_T81 l0 x3_1).f0)) ∧ w'.cell? ⟨gb185, 1, none⟩ = some (.string ((rd_T81 l0 x3_1).f1)) ∧ w'.cell? ⟨gb185, 2, none⟩ = some (.slice (some ad192) ((rd_T81 l0 x3_1).f2).length c184_2) ∧ w'.cell? (ad192.add ((x5_3).toNat * 2)) = some (.int .i64 ((rd_T37 ((rd_T81 l0 x3_1).f2) x5_3).f0)) ∧ w'.cell? ⟨(ad192.add ((x5_3).toNat * 2)).block, (ad192.add ((x5_3).toNat * 2)).off + 1, none⟩ = some (.int .i64 ((rd_T37 ((rd_T81 l0 x3_1).f2) x5_3).f1)) ∧ w'.cell? (ad192.add ((x5_3).toNat * 2)) = some (.int .i64 ((rd_T37 ((rd_T81 l0 x3_1).f2) x5_3).f0)) ∧ w'.cell? ⟨(ad192.add ((x5_3).toNat * 2)).block, (ad192.add ((x5_3).toNat * 2)).off + 1, none⟩ = some (.int .i64 ((rd_T37 ((rd_T81 l0 x3_1).f2) x5_3).f1)) ∧ w'.cell? (ad192.add (((ji37)).toNat * 2)) = some (.int .i64 ((rd_T37 ((rd_T81 l0 x3_1).f2) (ji37)).f0)) ∧ w'.cell? ⟨(ad192.add (((ji37)).toNat * 2)).block, (ad192.add (((ji37)).toNat * 2)).off + 1, none⟩ = some (.int .i64 ((rd_T37 ((rd_T81 l0 x3_1).f2) (ji37)).f1)) ∧ w'.cell? (ad192.add ((x5_3).toNat * 2)) = some (.int .i64 ((rd_T37 ((rd_T81 l0 x3_1).f2) x5_3).f0)) ∧ w'.cell? ⟨(ad192.add ((x5_3).toNat * 2)).block, (ad192.add ((x5_3).toNat * 2)).off + 1, none⟩ = some (.int .i64 ((rd_T37 ((rd_T81 l0 x3_1).f2) x5_3).f1))) (ds := []) (bitsA 38 0) (by kernel_rfl) rfl rfl ⟨bc BK185 0, bc BK185 1, bc BK185 2, (cw hw192_0), (cw hw192_1), (cw hw194_0), (cw hw194_1), (cw hw196_0), (cw hw196_1), (cw hw197_0), (cw hw197_1)⟩ (fun hHeld => ?_); refine with_tabW spec_StoreOk.tab12 spec_StoreOk.bits12 (fun HT_ HW_ => ?_)
                               generalize wr.drew = w42 at BK185 HB hx192_0 hx192_1 hx194_0 hx194_1 hx196_0 hx196_1 hx197_0 hx197_1 hHeld ⊢
                               refine pu 0 (some 67) (bitsA 38 1) ?_
                               refine tk 1 (some 68) (bitsA 38 3) hHeld ?_ (hy := Or.inl ⟨by rfl, by rintro w' ⟨s0, s1, s2, s3, s4, s5, s6, s7, s8, s9, s10⟩; go_simp; with_reducible rfl⟩)
                               refine pu 2 (some 69) (bitsA 38 7) ?_
                               refine pu 3 (some 70) (bitsA 38 15) ?_
                               refine pu 4 (some 71) (bitsA 38 31) ?_
                               refine tk 5 (some 72) (bitsA 38 63) hHeld ?_ (hy := Or.inl ⟨by rfl, by rintro w' ⟨s0, s1, s2, s3, s4, s5, s6, s7, s8, s9, s10⟩; go_simp; with_reducible rfl⟩)
                               refine one_ (i := 6) (N := some 73) (bitsA 38 127) rfl rfl (one_of HT_.out (by kernel_rfl)) (by decide) (fun K hK => ?_)
                               refine goes_ Try.func71 (by kernel_rfl) rfl #[.int .i64 ((rd_T37 ((rd_T81 l0 x3_1).f2) x5_3).f0)] (by rfl) rfl rfl mt ?_
                               with_reducible refine (spec_l02Tick.calls ((rd_T37 ((rd_T81 l0 x3_1).f2) x5_3).f0) true _ A32.out).mono ?_
                               rintro e w' ⟨rfl, ⟨nd, rfl⟩⟩
                               refine ⟨_, rfl, ?_⟩
                               refine hK.out _ _ ⟨bc BK185 0, bc BK185 1, bc BK185 2, (cw hw192_0), (cw hw192_1), (cw hw194_0), (cw hw194_1), (cw hw196_0), (cw hw196_1), (cw hw197_0), (cw hw197_1)⟩ (fun hHeld => ?_)
                               clear hK K
                               refine nm ?_
                               refine pu 7 (some 74) (bitsA 38 255) ?_
                               refine pu 8 (some 75) (bitsA 38 511) ?_
                               refine pu 9 (some 76) (bitsA 38 1023) ?_
                               refine tk 10 (some 77) (bitsA 38 2047) hHeld ?_ (hy := Or.inl ⟨by rfl, by rintro w' ⟨s0, s1, s2, s3, s4, s5, s6, s7, s8, s9, s10⟩; go_simp; with_reducible rfl⟩)
                               refine pu 11 (some 78) (bitsA 38 4095) ?_
                               refine pu 12 (some 79) (bitsA 38 8191) ?_
                               refine pu 13 (some 80) (bitsA 38 16383) ?_
                               refine tk 14 (some 81) (bitsA 38 32767) hHeld ?_ (hy := Or.inl ⟨by rfl, by rintro w' ⟨s0, s1, s2, s3, s4, s5, s6, s7, s8, s9, s10⟩; go_simp; with_reducible rfl⟩)
                               refine one_ (i := 15) (N := some 82) (bitsA 38 65535) rfl rfl (one_of HT_.out (by kernel_rfl)) (by decide) (fun K hK => ?_)
                               refine goes_ Try.func72 (by kernel_rfl) rfl #[.int .i64 ((rd_T37 ((rd_T81 l0 x3_1).f2) x5_3).f1)] (by rfl) rfl rfl mt ?_
                               with_reducible refine (spec_l01Amt.calls ((rd_T37 ((rd_T81 l0 x3_1).f2) x5_3).f1) true _ A34.out).mono ?_
                               rintro e w' ⟨rfl, ⟨nd, rfl⟩⟩
                               refine ⟨_, rfl, ?_⟩
                               refine hK.out _ _ ⟨bc BK185 0, bc BK185 1, bc BK185 2, (cw hw192_0), (cw hw192_1), (cw hw194_0), (cw hw194_1), (cw hw196_0), (cw hw196_1), (cw hw197_0), (cw hw197_1)⟩ (fun hHeld => ?_)
                               clear hK K
                               refine nm ?_
                               refine pu 16 (some 83) (bitsA 38 131071) ?_
                               refine pu 17 (some 84) (bitsA 38 262143) ?_
                               refine pu 18 (some 85) (bitsA 38 524287) ?_
                               refine pu 19 (some 86) (bitsA 38 1048575) ?_
                               refine pu 20 (some 87) (bitsA 38 2097151) ?_
                               refine pu 21 (some 88) (bitsA 38 4194303) ?_
                               refine pu 22 (some 89) (bitsA 38 8388607) ?_
                               refine tk 23 (some 90) (bitsA 38 16777215) hHeld ?_ (hy := Or.inl ⟨by rfl, by rintro w' ⟨s0, s1, s2, s3, s4, s5, s6, s7, s8, s9, s10⟩; go_simp; with_reducible rfl⟩)
                               refine pu 24 (some 91) (bitsA 38 33554431) ?_
                               refine pu 25 (some 92) (bitsA 38 67108863) ?_
                               refine pu 26 (some 93) (bitsA 38 134217727) ?_
                               refine pu 27 (some 94) (bitsA 38 268435455) ?_
                               refine tk 28 (some 95) (bitsA 38 536870911) hHeld ?_ (hy := Or.inl ⟨by rfl, by rintro w' ⟨s0, s1, s2, s3, s4, s5, s6, s7, s8, s9, s10⟩; go_simp; with_reducible rfl⟩)
                               refine pu 29 (some 96) (bitsA 38 1073741823) ?_
                               refine tk 30 (some 97) (bitsA 38 2147483647) hHeld ?_ (hy := Or.inl ⟨by rfl, by rintro w' ⟨s0, s1, s2, s3, s4, s5, s6, s7, s8, s9, s10⟩; go_simp; with_reducible rfl⟩)
                               refine pu 31 (some 98) (bitsA 38 4294967295) ?_
                               refine pu 32 (some 99) (bitsA 38 8589934591) ?_
                               refine pu 33 (some 100) (bitsA 38 17179869183) ?_
                               refine tk 34 (some 101) (bitsA 38 34359738367) hHeld ?_ (hy := Or.inl ⟨by rfl, by rintro w' ⟨s0, s1, s2, s3, s4, s5, s6, s7, s8, s9, s10⟩; go_simp; with_reducible rfl⟩)
                               refine pu 35 (some 102) (bitsA 38 68719476735) ?_
                               refine pu 36 (some 103) (bitsA 38 137438953471) ?_
                               refine pu 37 (some 104) (bitsA 38 274877906943) ?_
                               refine done_ (done_of HT_.out (by kernel_rfl)) ?_
                               try go_wp2
                               go_ret
                               exact ⟨by first | rfl | (simp [errW_none, errW_some] <;> rfl) | (simp only [← hji37]; first | rfl | (simp [errW_none, errW_some] <;> rfl)) | (simp [*, errW_none, errW_some] <;> rfl), bl1 GE185⟩
                             · rw [if_neg c40] at H
                               have c40b0 : decide (((rd_T37 ((rd_T81 l0 x3_1).f2) x5_3).f0) ≤ ((rd_T37 ((rd_T81 l0 x3_1).f2) (ji37)).f0)) = false := decide_eq_false c40
                               clear c40
                               have H' := Aside0.mk H
                               clear H
                               obtain ⟨hcz43_0, hcz43_1, hcz43_2, hfz43_0, hfz43_1, hfz43_2⟩ := cz3 BK185
                               try go_wp2
                               replace BK185 := ak (blk_drew BK185.out)
                               replace HB := ak (below_drew1 HB.out)
                               have p192 : 0 ≤ (x5_3 : Int) := of_decide_eq_true am
                               have q192 : x5_3 < (((rd_T81 l0 x3_1).f2).length : Int) := of_decide_eq_true am
                               obtain ⟨ad192, e192, hx192_0, hx192_1⟩ := at_T37 HR184_2.out x5_3 p192 q192
                               have hw192_1 := hx192_1
                               have hw192_0 := hx192_0
                               cases e192
                               replace hx192_0 := cw hx192_0
                               replace hx192_1 := cw hx192_1
                               replace p192 := eq_true p192
                               replace q192 := eq_true q192
                               have p194 : 0 ≤ (x5_3 : Int) := of_decide_eq_true am
                               have q194 : x5_3 < (((rd_T81 l0 x3_1).f2).length : Int) := of_decide_eq_true am
                               obtain ⟨ad194, e194, hx194_0, hx194_1⟩ := at_T37 HR184_2.out x5_3 p194 q194
                               have hw194_1 := hx194_1
                               have hw194_0 := hx194_0
                               obtain rfl : ad192 = ad194 := (by injection e194)
                               replace hx194_0 := cw hx194_0
                               replace hx194_1 := cw hx194_1
                               replace p194 := eq_true p194
                               replace q194 := eq_true q194
                               have p196 : 0 ≤ ((ji37) : Int) := of_decide_eq_true am
                               have q196 : (ji37) < (((rd_T81 l0 x3_1).f2).length : Int) := of_decide_eq_true am
                               obtain ⟨ad196, e196, hx196_0, hx196_1⟩ := at_T37 HR184_2.out (ji37) p196 q196
                               have hw196_1 := hx196_1
                               have hw196_0 := hx196_0
                               obtain rfl : ad192 = ad196 := (by injection e196)
                               replace hx196_0 := cw hx196_0
                               replace hx196_1 := cw hx196_1
                               replace p196 := eq_true p196
                               replace q196 := eq_true q196
                               have p197 : 0 ≤ (x5_3 : Int) := of_decide_eq_true am
                               have q197 : x5_3 < (((rd_T81 l0 x3_1).f2).length : Int) := of_decide_eq_true am
                               obtain ⟨ad197, e197, hx197_0, hx197_1⟩ := at_T37 HR184_2.out x5_3 p197 q197
                               have hw197_1 := hx197_1
                               have hw197_0 := hx197_0
                               obtain rfl : ad192 = ad197 := (by injection e197)
                               replace hx197_0 := cw hx197_0
                               replace hx197_1 := cw hx197_1
                               replace p197 := eq_true p197
                               replace q197 := eq_true q197
                               refine start_ (n := 38) (S := fun w' => w'.cell? ⟨gb185, 0, none⟩ = some (.string ((rd_T81 l0 x3_1).f0)) ∧ w'.cell? ⟨gb185, 1, none⟩ = some (.string ((rd_T81 l0 x3_1).f1)) ∧ w'.cell? ⟨gb185, 2, none⟩ = some (.slice (some ad192) ((rd_T81 l0 x3_1).f2).length c184_2) ∧ w'.cell? (ad192.add ((x5_3).toNat * 2)) = some (.int .i64 ((rd_T37 ((rd_T81 l0 x3_1).f2) x5_3).f0)) ∧ w'.cell? ⟨(ad192.add ((x5_3).toNat * 2)).block, (ad192.add ((x5_3).toNat * 2)).off + 1, none⟩ = some (.int .i64 ((rd_T37 ((rd_T81 l0 x3_1).f2) x5_3).f1)) ∧ w'.cell? (ad192.add ((x5_3).toNat * 2)) = some (.int .i64 ((rd_T37 ((rd_T81 l0 x3_1).f2) x5_3).f0)) ∧ w'.cell? ⟨(ad192.add ((x5_3).toNat * 2)).block, (ad192.add ((x5_3).toNat * 2)).off + 1, none⟩ = some (.int .i64 ((rd_T37 ((rd_T81 l0 x3_1).f2) x5_3).f1)) ∧ w'.cell? (ad192.add (((ji37)).toNat * 2)) = some (.int .i64 ((rd_T37 ((rd_T81 l0 x3_1).f2) (ji37)).f0)) ∧ w'.cell? ⟨(ad192.add (((ji37)).toNat * 2)).block, (ad192.add (((ji37)).toNat * 2)).off + 1, none⟩ = some (.int .i64 ((rd_T37 ((rd_T81 l0 x3_1).f2) (ji37)).f1)) ∧ w'.cell? (ad192.add ((x5_3).toNat * 2)) = some (.int .i64 ((rd_T37 ((rd_T81 l0 x3_1).f2) x5_3).f0)) ∧ w'.cell? ⟨(ad192.add ((x5_3).toNat * 2)).block, (ad192.add ((x5_3).toNat * 2)).off + 1, none⟩ = some (.int .i64 ((rd_T37 ((rd_T81 l0 x3_1).f2) x5_3).f1))) (ds := []) (bitsA 38 0) (by kernel_rfl) rfl rfl ⟨bc BK185 0, bc BK185 1, bc BK185 2, (cw hw192_0), (cw hw192_1), (cw hw194_0), (cw hw194_1), (cw hw196_0), (cw hw196_1), (cw hw197_0), (cw hw197_1)⟩ (fun hHeld => ?_); refine with_tabW spec_StoreOk.tab12 spec_StoreOk.bits12 (fun HT_ HW_ => ?_)
                               generalize wr.drew = w44 at BK185 HB hx192_0 hx192_1 hx194_0 hx194_1 hx196_0 hx196_1 hx197_0 hx197_1 hHeld ⊢
                               refine pu 0 (some 67) (bitsA 38 1) ?_
                               refine tk 1 (some 68) (bitsA 38 3) hHeld ?_ (hy := Or.inl ⟨by rfl, by rintro w' ⟨s0, s1, s2, s3, s4, s5, s6, s7, s8, s9, s10⟩; go_simp; with_reducible rfl⟩)
                               refine pu 2 (some 69) (bitsA 38 7) ?_
                               refine pu 3 (some 70) (bitsA 38 15) ?_
                               refine pu 4 (some 71) (bitsA 38 31) ?_
                               refine tk 5 (some 72) (bitsA 38 63) hHeld ?_ (hy := Or.inl ⟨by rfl, by rintro w' ⟨s0, s1, s2, s3, s4, s5, s6, s7, s8, s9, s10⟩; go_simp; with_reducible rfl⟩)
                               refine one_ (i := 6) (N := some 73) (bitsA 38 127) rfl rfl (one_of HT_.out (by kernel_rfl)) (by decide) (fun K hK => ?_)
                               refine goes_ Try.func71 (by kernel_rfl) rfl #[.int .i64 ((rd_T37 ((rd_T81 l0 x3_1).f2) x5_3).f0)] (by rfl) rfl rfl mt ?_
                               with_reducible refine (spec_l02Tick.calls ((rd_T37 ((rd_T81 l0 x3_1).f2) x5_3).f0) true _ A32.out).mono ?_
                               rintro e w' ⟨rfl, ⟨nd, rfl⟩⟩
                               refine ⟨_, rfl, ?_⟩
                               refine hK.out _ _ ⟨bc BK185 0, bc BK185 1, bc BK185 2, (cw hw192_0), (cw hw192_1), (cw hw194_0), (cw hw194_1), (cw hw196_0), (cw hw196_1), (cw hw197_0), (cw hw197_1)⟩ (fun hHeld => ?_)
                               clear hK K
                               refine nm ?_
                               refine pu 7 (some 74) (bitsA 38 255) ?_
                               refine pu 8 (some 75) (bitsA 38 511) ?_
                               refine pu 9 (some 76) (bitsA 38 1023) ?_
                               refine tk 10 (some 77) (bitsA 38 2047) hHeld ?_ (hy := Or.inl ⟨by rfl, by rintro w' ⟨s0, s1, s2, s3, s4, s5, s6, s7, s8, s9, s10⟩; go_simp; with_reducible rfl⟩)
                               refine pu 11 (some 78) (bitsA 38 4095) ?_
                               refine pu 12 (some 79) (bitsA 38 8191) ?_
                               refine pu 13 (some 80) (bitsA 38 16383) ?_
                               refine tk 14 (some 81) (bitsA 38 32767) hHeld ?_ (hy := Or.inl ⟨by rfl, by rintro w' ⟨s0, s1, s2, s3, s4, s5, s6, s7, s8, s9, s10⟩; go_simp; with_reducible rfl⟩)
                               refine one_ (i := 15) (N := some 82) (bitsA 38 65535) rfl rfl (one_of HT_.out (by kernel_rfl)) (by decide) (fun K hK => ?_)
                               refine goes_ Try.func72 (by kernel_rfl) rfl #[.int .i64 ((rd_T37 ((rd_T81 l0 x3_1).f2) x5_3).f1)] (by rfl) rfl rfl mt ?_
                               with_reducible refine (spec_l01Amt.calls ((rd_T37 ((rd_T81 l0 x3_1).f2) x5_3).f1) true _ A34.out).mono ?_
                               rintro e w' ⟨rfl, ⟨nd, rfl⟩⟩
                               refine ⟨_, rfl, ?_⟩
                               refine hK.out _ _ ⟨bc BK185 0, bc BK185 1, bc BK185 2, (cw hw192_0), (cw hw192_1), (cw hw194_0), (cw hw194_1), (cw hw196_0), (cw hw196_1), (cw hw197_0), (cw hw197_1)⟩ (fun hHeld => ?_)
                               clear hK K
                               refine nm ?_
                               refine pu 16 (some 83) (bitsA 38 131071) ?_
                               refine pu 17 (some 84) (bitsA 38 262143) ?_
                               refine pu 18 (some 85) (bitsA 38 524287) ?_
                               refine pu 19 (some 86) (bitsA 38 1048575) ?_
                               refine pu 20 (some 87) (bitsA 38 2097151) ?_
                               refine pu 21 (some 88) (bitsA 38 4194303) ?_
                               refine pu 22 (some 89) (bitsA 38 8388607) ?_
                               refine tk 23 (some 90) (bitsA 38 16777215) hHeld ?_ (hy := Or.inl ⟨by rfl, by rintro w' ⟨s0, s1, s2, s3, s4, s5, s6, s7, s8, s9, s10⟩; go_simp; with_reducible rfl⟩)
                               refine pu 24 (some 91) (bitsA 38 33554431) ?_
                               refine pu 25 (some 92) (bitsA 38 67108863) ?_
                               refine pu 26 (some 93) (bitsA 38 134217727) ?_
                               refine pu 27 (some 94) (bitsA 38 268435455) ?_
                               refine tk 28 (some 95) (bitsA 38 536870911) hHeld ?_ (hy := Or.inl ⟨by rfl, by rintro w' ⟨s0, s1, s2, s3, s4, s5, s6, s7, s8, s9, s10⟩; go_simp; with_reducible rfl⟩)
                               refine pu 29 (some 96) (bitsA 38 1073741823) ?_
                               refine tk 30 (some 97) (bitsA 38 2147483647) hHeld ?_ (hy := Or.inl ⟨by rfl, by rintro w' ⟨s0, s1, s2, s3, s4, s5, s6, s7, s8, s9, s10⟩; go_simp; with_reducible rfl⟩)
                               refine pu 31 (some 98) (bitsA 38 4294967295) ?_
                               refine pu 32 (some 99) (bitsA 38 8589934591) ?_
                               refine pu 33 (some 100) (bitsA 38 17179869183) ?_
                               refine tk 34 (some 101) (bitsA 38 34359738367) hHeld ?_ (hy := Or.inl ⟨by rfl, by rintro w' ⟨s0, s1, s2, s3, s4, s5, s6, s7, s8, s9, s10⟩; go_simp; with_reducible rfl⟩)
                               refine pu 35 (some 102) (bitsA 38 68719476735) ?_
                               refine pu 36 (some 103) (bitsA 38 137438953471) ?_
                               refine pu 37 (some 104) (bitsA 38 274877906943) ?_
                               refine done_ (done_of HT_.out (by kernel_rfl)) ?_
                               try go_wp2
                               go_roundg k3
                               case measure => have := HK1.out; have := HJ4.out; have := HK3.out; omega
                               case rel => exact ⟨(wrap64 (x5_3 + 1)), es, H', ⟨by have := HK1.out; have := HJ4.out; have := HK3.out; omega⟩, ⟨bk BK185⟩, ⟨bl1 GE185⟩⟩
                           · rw [if_neg c39] at H
                             exact absurd H (by simp)
                         · rw [if_neg c38] at H
                           exact absurd H (by simp)
                       · rw [if_neg c36] at H
                         have c36b0 : decide (0 < x5_3) = false := decide_eq_false c36
                         clear c36
                         have H' := Aside0.mk H
                         clear H
                         obtain ⟨hcz45_0, hcz45_1, hcz45_2, hfz45_0, hfz45_1, hfz45_2⟩ := cz3 BK185
                         try go_wp2
                         replace BK185 := ak (blk_drew BK185.out)
                         replace HB := ak (below_drew1 HB.out)
                         have p192 : 0 ≤ (x5_3 : Int) := of_decide_eq_true am
                         have q192 : x5_3 < (((rd_T81 l0 x3_1).f2).length : Int) := of_decide_eq_true am
                         obtain ⟨ad192, e192, hx192_0, hx192_1⟩ := at_T37 HR184_2.out x5_3 p192 q192
                         have hw192_1 := hx192_1
                         have hw192_0 := hx192_0
                         cases e192
                         replace hx192_0 := cw hx192_0
                         replace hx192_1 := cw hx192_1
                         replace p192 := eq_true p192
                         replace q192 := eq_true q192
                         have p194 : 0 ≤ (x5_3 : Int) := of_decide_eq_true am
                         have q194 : x5_3 < (((rd_T81 l0 x3_1).f2).length : Int) := of_decide_eq_true am
                         obtain ⟨ad194, e194, hx194_0, hx194_1⟩ := at_T37 HR184_2.out x5_3 p194 q194
                         have hw194_1 := hx194_1
                         have hw194_0 := hx194_0
                         obtain rfl : ad192 = ad194 := (by injection e194)
                         replace hx194_0 := cw hx194_0
                         replace hx194_1 := cw hx194_1
                         replace p194 := eq_true p194
                         replace q194 := eq_true q194
                         refine start_ (n := 38) (S := fun w' => w'.cell? ⟨gb185, 0, none⟩ = some (.string ((rd_T81 l0 x3_1).f0)) ∧ w'.cell? ⟨gb185, 1, none⟩ = some (.string ((rd_T81 l0 x3_1).f1)) ∧ w'.cell? ⟨gb185, 2, none⟩ = some (.slice (some ad192) ((rd_T81 l0 x3_1).f2).length c184_2) ∧ w'.cell? (ad192.add ((x5_3).toNat * 2)) = some (.int .i64 ((rd_T37 ((rd_T81 l0 x3_1).f2) x5_3).f0)) ∧ w'.cell? ⟨(ad192.add ((x5_3).toNat * 2)).block, (ad192.add ((x5_3).toNat * 2)).off + 1, none⟩ = some (.int .i64 ((rd_T37 ((rd_T81 l0 x3_1).f2) x5_3).f1)) ∧ w'.cell? (ad192.add ((x5_3).toNat * 2)) = some (.int .i64 ((rd_T37 ((rd_T81 l0 x3_1).f2) x5_3).f0)) ∧ w'.cell? ⟨(ad192.add ((x5_3).toNat * 2)).block, (ad192.add ((x5_3).toNat * 2)).off + 1, none⟩ = some (.int .i64 ((rd_T37 ((rd_T81 l0 x3_1).f2) x5_3).f1))) (ds := []) (bitsA 38 0) (by kernel_rfl) rfl rfl ⟨bc BK185 0, bc BK185 1, bc BK185 2, (cw hw192_0), (cw hw192_1), (cw hw194_0), (cw hw194_1)⟩ (fun hHeld => ?_); refine with_tabW spec_StoreOk.tab12 spec_StoreOk.bits12 (fun HT_ HW_ => ?_)
                         generalize wr.drew = w46 at BK185 HB hx192_0 hx192_1 hx194_0 hx194_1 hHeld ⊢
                         refine pu 0 (some 67) (bitsA 38 1) ?_
                         refine tk 1 (some 68) (bitsA 38 3) hHeld ?_ (hy := Or.inl ⟨by rfl, by rintro w' ⟨s0, s1, s2, s3, s4, s5, s6⟩; go_simp; with_reducible rfl⟩)
                         refine pu 2 (some 69) (bitsA 38 7) ?_
                         refine pu 3 (some 70) (bitsA 38 15) ?_
                         refine pu 4 (some 71) (bitsA 38 31) ?_
                         refine tk 5 (some 72) (bitsA 38 63) hHeld ?_ (hy := Or.inl ⟨by rfl, by rintro w' ⟨s0, s1, s2, s3, s4, s5, s6⟩; go_simp; with_reducible rfl⟩)
                         refine one_ (i := 6) (N := some 73) (bitsA 38 127) rfl rfl (one_of HT_.out (by kernel_rfl)) (by decide) (fun K hK => ?_)
                         refine goes_ Try.func71 (by kernel_rfl) rfl #[.int .i64 ((rd_T37 ((rd_T81 l0 x3_1).f2) x5_3).f0)] (by rfl) rfl rfl mt ?_
                         with_reducible refine (spec_l02Tick.calls ((rd_T37 ((rd_T81 l0 x3_1).f2) x5_3).f0) true _ A32.out).mono ?_
                         rintro e w' ⟨rfl, ⟨nd, rfl⟩⟩
                         refine ⟨_, rfl, ?_⟩
                         refine hK.out _ _ ⟨bc BK185 0, bc BK185 1, bc BK185 2, (cw hw192_0), (cw hw192_1), (cw hw194_0), (cw hw194_1)⟩ (fun hHeld => ?_)
                         clear hK K
                         refine nm ?_
                         refine pu 7 (some 74) (bitsA 38 255) ?_
                         refine pu 8 (some 75) (bitsA 38 511) ?_
                         refine pu 9 (some 76) (bitsA 38 1023) ?_
                         refine tk 10 (some 77) (bitsA 38 2047) hHeld ?_ (hy := Or.inl ⟨by rfl, by rintro w' ⟨s0, s1, s2, s3, s4, s5, s6⟩; go_simp; with_reducible rfl⟩)
                         refine pu 11 (some 78) (bitsA 38 4095) ?_
                         refine pu 12 (some 79) (bitsA 38 8191) ?_
                         refine pu 13 (some 80) (bitsA 38 16383) ?_
                         refine tk 14 (some 81) (bitsA 38 32767) hHeld ?_ (hy := Or.inl ⟨by rfl, by rintro w' ⟨s0, s1, s2, s3, s4, s5, s6⟩; go_simp; with_reducible rfl⟩)
                         refine one_ (i := 15) (N := some 82) (bitsA 38 65535) rfl rfl (one_of HT_.out (by kernel_rfl)) (by decide) (fun K hK => ?_)
                         refine goes_ Try.func72 (by kernel_rfl) rfl #[.int .i64 ((rd_T37 ((rd_T81 l0 x3_1).f2) x5_3).f1)] (by rfl) rfl rfl mt ?_
                         with_reducible refine (spec_l01Amt.calls ((rd_T37 ((rd_T81 l0 x3_1).f2) x5_3).f1) true _ A34.out).mono ?_
                         rintro e w' ⟨rfl, ⟨nd, rfl⟩⟩
                         refine ⟨_, rfl, ?_⟩
                         refine hK.out _ _ ⟨bc BK185 0, bc BK185 1, bc BK185 2, (cw hw192_0), (cw hw192_1), (cw hw194_0), (cw hw194_1)⟩ (fun hHeld => ?_)
                         clear hK K
                         refine nm ?_
                         refine pu 16 (some 83) (bitsA 38 131071) ?_
                         refine pu 17 (some 84) (bitsA 38 262143) ?_
                         refine pu 18 (some 85) (bitsA 38 524287) ?_
                         refine pu 19 (some 86) (bitsA 38 1048575) ?_
                         refine pu 20 (some 87) (bitsA 38 2097151) ?_
                         refine pu 21 (some 88) (bitsA 38 4194303) ?_
                         refine pure_ (i := 22) (N := some 89) (v := undef) (a' := ?_) (bitsA 38 8388607) rfl rfl (any_of HT_.out (by kernel_rfl)) (fun _ _ _ h => h) (Or.inr ⟨by rfl, rfl⟩) ?_ ?_; rotate_left; (· (simp only [Act.put, List.setIfInBounds_toArray, List.set_cons_zero, List.set_cons_succ, i64_w, i32_w]; rfl))
                         refine pure_ (i := 23) (N := some 90) (v := undef) (a' := ?_) (bitsA 38 16777215) rfl rfl (any_of HT_.out (by kernel_rfl)) (fun _ _ _ h => h) (Or.inr ⟨by rfl, rfl⟩) ?_ ?_; rotate_left; (· (simp only [Act.put, List.setIfInBounds_toArray, List.set_cons_zero, List.set_cons_succ, i64_w, i32_w]; rfl))
                         refine pure_ (i := 24) (N := some 91) (v := undef) (a' := ?_) (bitsA 38 33554431) rfl rfl (any_of HT_.out (by kernel_rfl)) (fun _ _ _ h => h) (Or.inr ⟨by rfl, rfl⟩) ?_ ?_; rotate_left; (· (simp only [Act.put, List.setIfInBounds_toArray, List.set_cons_zero, List.set_cons_succ, i64_w, i32_w]; rfl))
                         refine pure_ (i := 25) (N := some 92) (v := undef) (a' := ?_) (bitsA 38 67108863) rfl rfl (any_of HT_.out (by kernel_rfl)) (fun _ _ _ h => h) (Or.inr ⟨by rfl, rfl⟩) ?_ ?_; rotate_left; (· (simp only [Act.put, List.setIfInBounds_toArray, List.set_cons_zero, List.set_cons_succ, i64_w, i32_w]; rfl))
                         refine pure_ (i := 26) (N := some 93) (v := undef) (a' := ?_) (bitsA 38 134217727) rfl rfl (any_of HT_.out (by kernel_rfl)) (fun _ _ _ h => h) (Or.inr ⟨by rfl, rfl⟩) ?_ ?_; rotate_left; (· (simp only [Act.put, List.setIfInBounds_toArray, List.set_cons_zero, List.set_cons_succ, i64_w, i32_w]; rfl))
                         refine pure_ (i := 27) (N := some 94) (v := undef) (a' := ?_) (bitsA 38 268435455) rfl rfl (any_of HT_.out (by kernel_rfl)) (fun _ _ _ h => h) (Or.inr ⟨by rfl, rfl⟩) ?_ ?_; rotate_left; (· (simp only [Act.put, List.setIfInBounds_toArray, List.set_cons_zero, List.set_cons_succ, i64_w, i32_w]; rfl))
                         refine pure_ (i := 28) (N := some 95) (v := undef) (a' := ?_) (bitsA 38 536870911) rfl rfl (any_of HT_.out (by kernel_rfl)) (fun _ _ _ h => h) (Or.inr ⟨by rfl, rfl⟩) ?_ ?_; rotate_left; (· (simp only [Act.put, List.setIfInBounds_toArray, List.set_cons_zero, List.set_cons_succ, i64_w, i32_w]; rfl))
                         refine pure_ (i := 29) (N := some 96) (v := undef) (a' := ?_) (bitsA 38 1073741823) rfl rfl (any_of HT_.out (by kernel_rfl)) (fun _ _ _ h => h) (Or.inr ⟨by rfl, rfl⟩) ?_ ?_; rotate_left; (· (simp only [Act.put, List.setIfInBounds_toArray, List.set_cons_zero, List.set_cons_succ, i64_w, i32_w]; rfl))
                         refine pure_ (i := 30) (N := some 97) (v := undef) (a' := ?_) (bitsA 38 2147483647) rfl rfl (any_of HT_.out (by kernel_rfl)) (fun _ _ _ h => h) (Or.inr ⟨by rfl, rfl⟩) ?_ ?_; rotate_left; (· (simp only [Act.put, List.setIfInBounds_toArray, List.set_cons_zero, List.set_cons_succ, i64_w, i32_w]; rfl))
                         refine pure_ (i := 31) (N := some 98) (v := undef) (a' := ?_) (bitsA 38 4294967295) rfl rfl (any_of HT_.out (by kernel_rfl)) (fun _ _ _ h => h) (Or.inr ⟨by rfl, rfl⟩) ?_ ?_; rotate_left; (· (simp only [Act.put, List.setIfInBounds_toArray, List.set_cons_zero, List.set_cons_succ, i64_w, i32_w]; rfl))
                         refine pure_ (i := 32) (N := some 99) (v := undef) (a' := ?_) (bitsA 38 8589934591) rfl rfl (any_of HT_.out (by kernel_rfl)) (fun _ _ _ h => h) (Or.inr ⟨by rfl, rfl⟩) ?_ ?_; rotate_left; (· (simp only [Act.put, List.setIfInBounds_toArray, List.set_cons_zero, List.set_cons_succ, i64_w, i32_w]; rfl))
                         refine pure_ (i := 33) (N := some 100) (v := undef) (a' := ?_) (bitsA 38 17179869183) rfl rfl (any_of HT_.out (by kernel_rfl)) (fun _ _ _ h => h) (Or.inr ⟨by rfl, rfl⟩) ?_ ?_; rotate_left; (· (simp only [Act.put, List.setIfInBounds_toArray, List.set_cons_zero, List.set_cons_succ, i64_w, i32_w]; rfl))
                         refine pure_ (i := 34) (N := some 101) (v := undef) (a' := ?_) (bitsA 38 34359738367) rfl rfl (any_of HT_.out (by kernel_rfl)) (fun _ _ _ h => h) (Or.inr ⟨by rfl, rfl⟩) ?_ ?_; rotate_left; (· (simp only [Act.put, List.setIfInBounds_toArray, List.set_cons_zero, List.set_cons_succ, i64_w, i32_w]; rfl))
                         refine pure_ (i := 35) (N := some 102) (v := undef) (a' := ?_) (bitsA 38 68719476735) rfl rfl (any_of HT_.out (by kernel_rfl)) (fun _ _ _ h => h) (Or.inr ⟨by rfl, rfl⟩) ?_ ?_; rotate_left; (· (simp only [Act.put, List.setIfInBounds_toArray, List.set_cons_zero, List.set_cons_succ, i64_w, i32_w]; rfl))
                         refine pu 36 (some 103) (bitsA 38 137438953471) ?_
                         refine pu 37 (some 104) (bitsA 38 274877906943) ?_
                         refine done_ (done_of HT_.out (by kernel_rfl)) ?_
                         try go_wp2
                         go_roundg k3
                         case measure => have := HK1.out; have := HJ4.out; have := HK3.out; omega
                         case rel => exact ⟨(wrap64 (x5_3 + 1)), es, H', ⟨by have := HK1.out; have := HJ4.out; have := HK3.out; omega⟩, ⟨bk BK185⟩, ⟨bl1 GE185⟩⟩
                     · replace c35 := Bool.eq_false_iff.mpr c35
                       subst c35
                       replace H := iF H
                       obtain rfl := Option.some.inj H
                       obtain ⟨hcz47_0, hcz47_1, hcz47_2, hfz47_0, hfz47_1, hfz47_2⟩ := cz3 BK185
                       try go_wp2
                       replace BK185 := ak (blk_drew BK185.out)
                       replace HB := ak (below_drew1 HB.out)
                       have p192 : 0 ≤ (x5_3 : Int) := of_decide_eq_true am
                       have q192 : x5_3 < (((rd_T81 l0 x3_1).f2).length : Int) := of_decide_eq_true am
                       obtain ⟨ad192, e192, hx192_0, hx192_1⟩ := at_T37 HR184_2.out x5_3 p192 q192
                       have hw192_1 := hx192_1
                       have hw192_0 := hx192_0
                       cases e192
                       replace hx192_0 := cw hx192_0
                       replace hx192_1 := cw hx192_1
                       replace p192 := eq_true p192
                       replace q192 := eq_true q192
                       have p194 : 0 ≤ (x5_3 : Int) := of_decide_eq_true am
                       have q194 : x5_3 < (((rd_T81 l0 x3_1).f2).length : Int) := of_decide_eq_true am
                       obtain ⟨ad194, e194, hx194_0, hx194_1⟩ := at_T37 HR184_2.out x5_3 p194 q194
                       have hw194_1 := hx194_1
                       have hw194_0 := hx194_0
                       obtain rfl : ad192 = ad194 := (by injection e194)
                       replace hx194_0 := cw hx194_0
                       replace hx194_1 := cw hx194_1
                       replace p194 := eq_true p194
                       replace q194 := eq_true q194
                       refine start_ (n := 38) (S := fun w' => w'.cell? ⟨gb185, 0, none⟩ = some (.string ((rd_T81 l0 x3_1).f0)) ∧ w'.cell? ⟨gb185, 1, none⟩ = some (.string ((rd_T81 l0 x3_1).f1)) ∧ w'.cell? ⟨gb185, 2, none⟩ = some (.slice (some ad192) ((rd_T81 l0 x3_1).f2).length c184_2) ∧ w'.cell? (ad192.add ((x5_3).toNat * 2)) = some (.int .i64 ((rd_T37 ((rd_T81 l0 x3_1).f2) x5_3).f0)) ∧ w'.cell? ⟨(ad192.add ((x5_3).toNat * 2)).block, (ad192.add ((x5_3).toNat * 2)).off + 1, none⟩ = some (.int .i64 ((rd_T37 ((rd_T81 l0 x3_1).f2) x5_3).f1)) ∧ w'.cell? (ad192.add ((x5_3).toNat * 2)) = some (.int .i64 ((rd_T37 ((rd_T81 l0 x3_1).f2) x5_3).f0)) ∧ w'.cell? ⟨(ad192.add ((x5_3).toNat * 2)).block, (ad192.add ((x5_3).toNat * 2)).off + 1, none⟩ = some (.int .i64 ((rd_T37 ((rd_T81 l0 x3_1).f2) x5_3).f1))) (ds := []) (bitsA 38 0) (by kernel_rfl) rfl rfl ⟨bc BK185 0, bc BK185 1, bc BK185 2, (cw hw192_0), (cw hw192_1), (cw hw194_0), (cw hw194_1)⟩ (fun hHeld => ?_); refine with_tabW spec_StoreOk.tab12 spec_StoreOk.bits12 (fun HT_ HW_ => ?_)
                       generalize wr.drew = w48 at BK185 HB hx192_0 hx192_1 hx194_0 hx194_1 hHeld ⊢
                       refine pu 0 (some 67) (bitsA 38 1) ?_
                       refine tk 1 (some 68) (bitsA 38 3) hHeld ?_ (hy := Or.inl ⟨by rfl, by rintro w' ⟨s0, s1, s2, s3, s4, s5, s6⟩; go_simp; with_reducible rfl⟩)
                       refine pu 2 (some 69) (bitsA 38 7) ?_
                       refine pu 3 (some 70) (bitsA 38 15) ?_
                       refine pu 4 (some 71) (bitsA 38 31) ?_
                       refine tk 5 (some 72) (bitsA 38 63) hHeld ?_ (hy := Or.inl ⟨by rfl, by rintro w' ⟨s0, s1, s2, s3, s4, s5, s6⟩; go_simp; with_reducible rfl⟩)
                       refine one_ (i := 6) (N := some 73) (bitsA 38 127) rfl rfl (one_of HT_.out (by kernel_rfl)) (by decide) (fun K hK => ?_)
                       refine goes_ Try.func71 (by kernel_rfl) rfl #[.int .i64 ((rd_T37 ((rd_T81 l0 x3_1).f2) x5_3).f0)] (by rfl) rfl rfl mt ?_
                       with_reducible refine (spec_l02Tick.calls ((rd_T37 ((rd_T81 l0 x3_1).f2) x5_3).f0) true _ A32.out).mono ?_
                       rintro e w' ⟨rfl, ⟨nd, rfl⟩⟩
                       refine ⟨_, rfl, ?_⟩
                       refine hK.out _ _ ⟨bc BK185 0, bc BK185 1, bc BK185 2, (cw hw192_0), (cw hw192_1), (cw hw194_0), (cw hw194_1)⟩ (fun hHeld => ?_)
                       clear hK K
                       refine nm ?_
                       refine pu 7 (some 74) (bitsA 38 255) ?_
                       refine pu 8 (some 75) (bitsA 38 511) ?_
                       refine pu 9 (some 76) (bitsA 38 1023) ?_
                       refine tk 10 (some 77) (bitsA 38 2047) hHeld ?_ (hy := Or.inl ⟨by rfl, by rintro w' ⟨s0, s1, s2, s3, s4, s5, s6⟩; go_simp; with_reducible rfl⟩)
                       refine pu 11 (some 78) (bitsA 38 4095) ?_
                       refine pu 12 (some 79) (bitsA 38 8191) ?_
                       refine pu 13 (some 80) (bitsA 38 16383) ?_
                       refine tk 14 (some 81) (bitsA 38 32767) hHeld ?_ (hy := Or.inl ⟨by rfl, by rintro w' ⟨s0, s1, s2, s3, s4, s5, s6⟩; go_simp; with_reducible rfl⟩)
                       refine one_ (i := 15) (N := some 82) (bitsA 38 65535) rfl rfl (one_of HT_.out (by kernel_rfl)) (by decide) (fun K hK => ?_)
                       refine goes_ Try.func72 (by kernel_rfl) rfl #[.int .i64 ((rd_T37 ((rd_T81 l0 x3_1).f2) x5_3).f1)] (by rfl) rfl rfl mt ?_
                       with_reducible refine (spec_l01Amt.calls ((rd_T37 ((rd_T81 l0 x3_1).f2) x5_3).f1) false _ A34.out).mono ?_
                       rintro e w' ⟨rfl, ⟨nd, rfl⟩⟩
                       refine ⟨_, rfl, ?_⟩
                       refine hK.out _ _ ⟨bc BK185 0, bc BK185 1, bc BK185 2, (cw hw192_0), (cw hw192_1), (cw hw194_0), (cw hw194_1)⟩ (fun hHeld => ?_)
                       clear hK K
                       refine nm ?_
                       refine pu 16 (some 83) (bitsA 38 131071) ?_
                       refine pu 17 (some 84) (bitsA 38 262143) ?_
                       refine pu 18 (some 85) (bitsA 38 524287) ?_
                       refine pure_ (i := 19) (N := some 86) (v := undef) (a' := ?_) (bitsA 38 1048575) rfl rfl (any_of HT_.out (by kernel_rfl)) (fun _ _ _ h => h) (Or.inr ⟨by rfl, rfl⟩) ?_ ?_; rotate_left; (· (simp only [Act.put, List.setIfInBounds_toArray, List.set_cons_zero, List.set_cons_succ, i64_w, i32_w]; rfl))
                       refine pure_ (i := 20) (N := some 87) (v := undef) (a' := ?_) (bitsA 38 2097151) rfl rfl (any_of HT_.out (by kernel_rfl)) (fun _ _ _ h => h) (Or.inr ⟨by rfl, rfl⟩) ?_ ?_; rotate_left; (· (simp only [Act.put, List.setIfInBounds_toArray, List.set_cons_zero, List.set_cons_succ, i64_w, i32_w]; rfl))
                       refine pure_ (i := 21) (N := some 88) (v := undef) (a' := ?_) (bitsA 38 4194303) rfl rfl (any_of HT_.out (by kernel_rfl)) (fun _ _ _ h => h) (Or.inr ⟨by rfl, rfl⟩) ?_ ?_; rotate_left; (· (simp only [Act.put, List.setIfInBounds_toArray, List.set_cons_zero, List.set_cons_succ, i64_w, i32_w]; rfl))
                       refine pure_ (i := 22) (N := some 89) (v := undef) (a' := ?_) (bitsA 38 8388607) rfl rfl (any_of HT_.out (by kernel_rfl)) (fun _ _ _ h => h) (Or.inr ⟨by rfl, rfl⟩) ?_ ?_; rotate_left; (· (simp only [Act.put, List.setIfInBounds_toArray, List.set_cons_zero, List.set_cons_succ, i64_w, i32_w]; rfl))
                       refine pure_ (i := 23) (N := some 90) (v := undef) (a' := ?_) (bitsA 38 16777215) rfl rfl (any_of HT_.out (by kernel_rfl)) (fun _ _ _ h => h) (Or.inr ⟨by rfl, rfl⟩) ?_ ?_; rotate_left; (· (simp only [Act.put, List.setIfInBounds_toArray, List.set_cons_zero, List.set_cons_succ, i64_w, i32_w]; rfl))
                       refine pure_ (i := 24) (N := some 91) (v := undef) (a' := ?_) (bitsA 38 33554431) rfl rfl (any_of HT_.out (by kernel_rfl)) (fun _ _ _ h => h) (Or.inr ⟨by rfl, rfl⟩) ?_ ?_; rotate_left; (· (simp only [Act.put, List.setIfInBounds_toArray, List.set_cons_zero, List.set_cons_succ, i64_w, i32_w]; rfl))
                       refine pure_ (i := 25) (N := some 92) (v := undef) (a' := ?_) (bitsA 38 67108863) rfl rfl (any_of HT_.out (by kernel_rfl)) (fun _ _ _ h => h) (Or.inr ⟨by rfl, rfl⟩) ?_ ?_; rotate_left; (· (simp only [Act.put, List.setIfInBounds_toArray, List.set_cons_zero, List.set_cons_succ, i64_w, i32_w]; rfl))
                       refine pure_ (i := 26) (N := some 93) (v := undef) (a' := ?_) (bitsA 38 134217727) rfl rfl (any_of HT_.out (by kernel_rfl)) (fun _ _ _ h => h) (Or.inr ⟨by rfl, rfl⟩) ?_ ?_; rotate_left; (· (simp only [Act.put, List.setIfInBounds_toArray, List.set_cons_zero, List.set_cons_succ, i64_w, i32_w]; rfl))
                       refine pure_ (i := 27) (N := some 94) (v := undef) (a' := ?_) (bitsA 38 268435455) rfl rfl (any_of HT_.out (by kernel_rfl)) (fun _ _ _ h => h) (Or.inr ⟨by rfl, rfl⟩) ?_ ?_; rotate_left; (· (simp only [Act.put, List.setIfInBounds_toArray, List.set_cons_zero, List.set_cons_succ, i64_w, i32_w]; rfl))
                       refine pure_ (i := 28) (N := some 95) (v := undef) (a' := ?_) (bitsA 38 536870911) rfl rfl (any_of HT_.out (by kernel_rfl)) (fun _ _ _ h => h) (Or.inr ⟨by rfl, rfl⟩) ?_ ?_; rotate_left; (· (simp only [Act.put, List.setIfInBounds_toArray, List.set_cons_zero, List.set_cons_succ, i64_w, i32_w]; rfl))
                       refine pure_ (i := 29) (N := some 96) (v := undef) (a' := ?_) (bitsA 38 1073741823) rfl rfl (any_of HT_.out (by kernel_rfl)) (fun _ _ _ h => h) (Or.inr ⟨by rfl, rfl⟩) ?_ ?_; rotate_left; (· (simp only [Act.put, List.setIfInBounds_toArray, List.set_cons_zero, List.set_cons_succ, i64_w, i32_w]; rfl))
                       refine pure_ (i := 30) (N := some 97) (v := undef) (a' := ?_) (bitsA 38 2147483647) rfl rfl (any_of HT_.out (by kernel_rfl)) (fun _ _ _ h => h) (Or.inr ⟨by rfl, rfl⟩) ?_ ?_; rotate_left; (· (simp only [Act.put, List.setIfInBounds_toArray, List.set_cons_zero, List.set_cons_succ, i64_w, i32_w]; rfl))
                       refine pure_ (i := 31) (N := some 98) (v := undef) (a' := ?_) (bitsA 38 4294967295) rfl rfl (any_of HT_.out (by kernel_rfl)) (fun _ _ _ h => h) (Or.inr ⟨by rfl, rfl⟩) ?_ ?_; rotate_left; (· (simp only [Act.put, List.setIfInBounds_toArray, List.set_cons_zero, List.set_cons_succ, i64_w, i32_w]; rfl))
                       refine pure_ (i := 32) (N := some 99) (v := undef) (a' := ?_) (bitsA 38 8589934591) rfl rfl (any_of HT_.out (by kernel_rfl)) (fun _ _ _ h => h) (Or.inr ⟨by rfl, rfl⟩) ?_ ?_; rotate_left; (· (simp only [Act.put, List.setIfInBounds_toArray, List.set_cons_zero, List.set_cons_succ, i64_w, i32_w]; rfl))
                       refine pure_ (i := 33) (N := some 100) (v := undef) (a' := ?_) (bitsA 38 17179869183) rfl rfl (any_of HT_.out (by kernel_rfl)) (fun _ _ _ h => h) (Or.inr ⟨by rfl, rfl⟩) ?_ ?_; rotate_left; (· (simp only [Act.put, List.setIfInBounds_toArray, List.set_cons_zero, List.set_cons_succ, i64_w, i32_w]; rfl))
                       refine pure_ (i := 34) (N := some 101) (v := undef) (a' := ?_) (bitsA 38 34359738367) rfl rfl (any_of HT_.out (by kernel_rfl)) (fun _ _ _ h => h) (Or.inr ⟨by rfl, rfl⟩) ?_ ?_; rotate_left; (· (simp only [Act.put, List.setIfInBounds_toArray, List.set_cons_zero, List.set_cons_succ, i64_w, i32_w]; rfl))
                       refine pure_ (i := 35) (N := some 102) (v := undef) (a' := ?_) (bitsA 38 68719476735) rfl rfl (any_of HT_.out (by kernel_rfl)) (fun _ _ _ h => h) (Or.inr ⟨by rfl, rfl⟩) ?_ ?_; rotate_left; (· (simp only [Act.put, List.setIfInBounds_toArray, List.set_cons_zero, List.set_cons_succ, i64_w, i32_w]; rfl))
                       refine pure_ (i := 36) (N := some 103) (v := undef) (a' := ?_) (bitsA 38 137438953471) rfl rfl (any_of HT_.out (by kernel_rfl)) (fun _ _ _ h => h) (Or.inr ⟨by rfl, rfl⟩) ?_ ?_; rotate_left; (· (simp only [Act.put, List.setIfInBounds_toArray, List.set_cons_zero, List.set_cons_succ, i64_w, i32_w]; rfl))
                       refine pu 37 (some 104) (bitsA 38 274877906943) ?_
                       refine done_ (done_of HT_.out (by kernel_rfl)) ?_
                       try go_wp2
                       go_ret
                       exact ⟨ew, bl1 GE185⟩
                   · replace c33 := Bool.eq_false_iff.mpr c33
                     subst c33
                     replace H := iF H
                     obtain rfl := Option.some.inj H
                     obtain ⟨hcz49_0, hcz49_1, hcz49_2, hfz49_0, hfz49_1, hfz49_2⟩ := cz3 BK185
                     try go_wp2
                     replace BK185 := ak (blk_drew BK185.out)
                     replace HB := ak (below_drew1 HB.out)
                     have p192 : 0 ≤ (x5_3 : Int) := of_decide_eq_true am
                     have q192 : x5_3 < (((rd_T81 l0 x3_1).f2).length : Int) := of_decide_eq_true am
                     obtain ⟨ad192, e192, hx192_0, hx192_1⟩ := at_T37 HR184_2.out x5_3 p192 q192
                     have hw192_1 := hx192_1
                     have hw192_0 := hx192_0
                     cases e192
                     replace hx192_0 := cw hx192_0
                     replace hx192_1 := cw hx192_1
                     replace p192 := eq_true p192
                     replace q192 := eq_true q192
                     refine start_ (n := 38) (S := fun w' => w'.cell? ⟨gb185, 0, none⟩ = some (.string ((rd_T81 l0 x3_1).f0)) ∧ w'.cell? ⟨gb185, 1, none⟩ = some (.string ((rd_T81 l0 x3_1).f1)) ∧ w'.cell? ⟨gb185, 2, none⟩ = some (.slice (some ad192) ((rd_T81 l0 x3_1).f2).length c184_2) ∧ w'.cell? (ad192.add ((x5_3).toNat * 2)) = some (.int .i64 ((rd_T37 ((rd_T81 l0 x3_1).f2) x5_3).f0)) ∧ w'.cell? ⟨(ad192.add ((x5_3).toNat * 2)).block, (ad192.add ((x5_3).toNat * 2)).off + 1, none⟩ = some (.int .i64 ((rd_T37 ((rd_T81 l0 x3_1).f2) x5_3).f1))) (ds := []) (bitsA 38 0) (by kernel_rfl) rfl rfl ⟨bc BK185 0, bc BK185 1, bc BK185 2, (cw hw192_0), (cw hw192_1)⟩ (fun hHeld => ?_); refine with_tabW spec_StoreOk.tab12 spec_StoreOk.bits12 (fun HT_ HW_ => ?_)
                     generalize wr.drew = w50 at BK185 HB hx192_0 hx192_1 hHeld ⊢
                     refine pu 0 (some 67) (bitsA 38 1) ?_
                     refine tk 1 (some 68) (bitsA 38 3) hHeld ?_ (hy := Or.inl ⟨by rfl, by rintro w' ⟨s0, s1, s2, s3, s4⟩; go_simp; with_reducible rfl⟩)
                     refine pu 2 (some 69) (bitsA 38 7) ?_
                     refine pu 3 (some 70) (bitsA 38 15) ?_
                     refine pu 4 (some 71) (bitsA 38 31) ?_
                     refine tk 5 (some 72) (bitsA 38 63) hHeld ?_ (hy := Or.inl ⟨by rfl, by rintro w' ⟨s0, s1, s2, s3, s4⟩; go_simp; with_reducible rfl⟩)
                     refine one_ (i := 6) (N := some 73) (bitsA 38 127) rfl rfl (one_of HT_.out (by kernel_rfl)) (by decide) (fun K hK => ?_)
                     refine goes_ Try.func71 (by kernel_rfl) rfl #[.int .i64 ((rd_T37 ((rd_T81 l0 x3_1).f2) x5_3).f0)] (by rfl) rfl rfl mt ?_
                     with_reducible refine (spec_l02Tick.calls ((rd_T37 ((rd_T81 l0 x3_1).f2) x5_3).f0) false _ A32.out).mono ?_
                     rintro e w' ⟨rfl, ⟨nd, rfl⟩⟩
                     refine ⟨_, rfl, ?_⟩
                     refine hK.out _ _ ⟨bc BK185 0, bc BK185 1, bc BK185 2, (cw hw192_0), (cw hw192_1)⟩ (fun hHeld => ?_)
                     clear hK K
                     refine nm ?_
                     refine pu 7 (some 74) (bitsA 38 255) ?_
                     refine pu 8 (some 75) (bitsA 38 511) ?_
                     refine pure_ (i := 9) (N := some 76) (v := undef) (a' := ?_) (bitsA 38 1023) rfl rfl (any_of HT_.out (by kernel_rfl)) (fun _ _ _ h => h) (Or.inr ⟨by rfl, rfl⟩) ?_ ?_; rotate_left; (· (simp only [Act.put, List.setIfInBounds_toArray, List.set_cons_zero, List.set_cons_succ, i64_w, i32_w]; rfl))
                     refine pure_ (i := 10) (N := some 77) (v := undef) (a' := ?_) (bitsA 38 2047) rfl rfl (any_of HT_.out (by kernel_rfl)) (fun _ _ _ h => h) (Or.inr ⟨by rfl, rfl⟩) ?_ ?_; rotate_left; (· (simp only [Act.put, List.setIfInBounds_toArray, List.set_cons_zero, List.set_cons_succ, i64_w, i32_w]; rfl))
                     refine pure_ (i := 11) (N := some 78) (v := undef) (a' := ?_) (bitsA 38 4095) rfl rfl (any_of HT_.out (by kernel_rfl)) (fun _ _ _ h => h) (Or.inr ⟨by rfl, rfl⟩) ?_ ?_; rotate_left; (· (simp only [Act.put, List.setIfInBounds_toArray, List.set_cons_zero, List.set_cons_succ, i64_w, i32_w]; rfl))
                     refine pure_ (i := 12) (N := some 79) (v := undef) (a' := ?_) (bitsA 38 8191) rfl rfl (any_of HT_.out (by kernel_rfl)) (fun _ _ _ h => h) (Or.inr ⟨by rfl, rfl⟩) ?_ ?_; rotate_left; (· (simp only [Act.put, List.setIfInBounds_toArray, List.set_cons_zero, List.set_cons_succ, i64_w, i32_w]; rfl))
                     refine pure_ (i := 13) (N := some 80) (v := undef) (a' := ?_) (bitsA 38 16383) rfl rfl (any_of HT_.out (by kernel_rfl)) (fun _ _ _ h => h) (Or.inr ⟨by rfl, rfl⟩) ?_ ?_; rotate_left; (· (simp only [Act.put, List.setIfInBounds_toArray, List.set_cons_zero, List.set_cons_succ, i64_w, i32_w]; rfl))
                     refine pure_ (i := 14) (N := some 81) (v := undef) (a' := ?_) (bitsA 38 32767) rfl rfl (any_of HT_.out (by kernel_rfl)) (fun _ _ _ h => h) (Or.inr ⟨by rfl, rfl⟩) ?_ ?_; rotate_left; (· (simp only [Act.put, List.setIfInBounds_toArray, List.set_cons_zero, List.set_cons_succ, i64_w, i32_w]; rfl))
                     refine pure_ (i := 15) (N := some 82) (v := undef) (a' := ?_) (bitsA 38 65535) rfl rfl (any_of HT_.out (by kernel_rfl)) (fun _ _ _ h => h) (Or.inr ⟨by rfl, rfl⟩) ?_ ?_; rotate_left; (· (simp only [Act.put, List.setIfInBounds_toArray, List.set_cons_zero, List.set_cons_succ, i64_w, i32_w]; rfl))
                     refine pure_ (i := 16) (N := some 83) (v := undef) (a' := ?_) (bitsA 38 131071) rfl rfl (any_of HT_.out (by kernel_rfl)) (fun _ _ _ h => h) (Or.inr ⟨by rfl, rfl⟩) ?_ ?_; rotate_left; (· (simp only [Act.put, List.setIfInBounds_toArray, List.set_cons_zero, List.set_cons_succ, i64_w, i32_w]; rfl))
                     refine pu 17 (some 84) (bitsA 38 262143) ?_
                     refine pu 18 (some 85) (bitsA 38 524287) ?_
                     refine pure_ (i := 19) (N := some 86) (v := undef) (a' := ?_) (bitsA 38 1048575) rfl rfl (any_of HT_.out (by kernel_rfl)) (fun _ _ _ h => h) (Or.inr ⟨by rfl, rfl⟩) ?_ ?_; rotate_left; (· (simp only [Act.put, List.setIfInBounds_toArray, List.set_cons_zero, List.set_cons_succ, i64_w, i32_w]; rfl))
                     refine pure_ (i := 20) (N := some 87) (v := undef) (a' := ?_) (bitsA 38 2097151) rfl rfl (any_of HT_.out (by kernel_rfl)) (fun _ _ _ h => h) (Or.inr ⟨by rfl, rfl⟩) ?_ ?_; rotate_left; (· (simp only [Act.put, List.setIfInBounds_toArray, List.set_cons_zero, List.set_cons_succ, i64_w, i32_w]; rfl))
                     refine pure_ (i := 21) (N := some 88) (v := undef) (a' := ?_) (bitsA 38 4194303) rfl rfl (any_of HT_.out (by kernel_rfl)) (fun _ _ _ h => h) (Or.inr ⟨by rfl, rfl⟩) ?_ ?_; rotate_left; (· (simp only [Act.put, List.setIfInBounds_toArray, List.set_cons_zero, List.set_cons_succ, i64_w, i32_w]; rfl))
                     refine pure_ (i := 22) (N := some 89) (v := undef) (a' := ?_) (bitsA 38 8388607) rfl rfl (any_of HT_.out (by kernel_rfl)) (fun _ _ _ h => h) (Or.inr ⟨by rfl, rfl⟩) ?_ ?_; rotate_left; (· (simp only [Act.put, List.setIfInBounds_toArray, List.set_cons_zero, List.set_cons_succ, i64_w, i32_w]; rfl))
                     refine pure_ (i := 23) (N := some 90) (v := undef) (a' := ?_) (bitsA 38 16777215) rfl rfl (any_of HT_.out (by kernel_rfl)) (fun _ _ _ h => h) (Or.inr ⟨by rfl, rfl⟩) ?_ ?_; rotate_left; (· (simp only [Act.put, List.setIfInBounds_toArray, List.set_cons_zero, List.set_cons_succ, i64_w, i32_w]; rfl))
                     refine pure_ (i := 24) (N := some 91) (v := undef) (a' := ?_) (bitsA 38 33554431) rfl rfl (any_of HT_.out (by kernel_rfl)) (fun _ _ _ h => h) (Or.inr ⟨by rfl, rfl⟩) ?_ ?_; rotate_left; (· (simp only [Act.put, List.setIfInBounds_toArray, List.set_cons_zero, List.set_cons_succ, i64_w, i32_w]; rfl))
                     refine pure_ (i := 25) (N := some 92) (v := undef) (a' := ?_) (bitsA 38 67108863) rfl rfl (any_of HT_.out (by kernel_rfl)) (fun _ _ _ h => h) (Or.inr ⟨by rfl, rfl⟩) ?_ ?_; rotate_left; (· (simp only [Act.put, List.setIfInBounds_toArray, List.set_cons_zero, List.set_cons_succ, i64_w, i32_w]; rfl))
                     refine pure_ (i := 26) (N := some 93) (v := undef) (a' := ?_) (bitsA 38 134217727) rfl rfl (any_of HT_.out (by kernel_rfl)) (fun _ _ _ h => h) (Or.inr ⟨by rfl, rfl⟩) ?_ ?_; rotate_left; (· (simp only [Act.put, List.setIfInBounds_toArray, List.set_cons_zero, List.set_cons_succ, i64_w, i32_w]; rfl))
                     refine pure_ (i := 27) (N := some 94) (v := undef) (a' := ?_) (bitsA 38 268435455) rfl rfl (any_of HT_.out (by kernel_rfl)) (fun _ _ _ h => h) (Or.inr ⟨by rfl, rfl⟩) ?_ ?_; rotate_left; (· (simp only [Act.put, List.setIfInBounds_toArray, List.set_cons_zero, List.set_cons_succ, i64_w, i32_w]; rfl))
                     refine pure_ (i := 28) (N := some 95) (v := undef) (a' := ?_) (bitsA 38 536870911) rfl rfl (any_of HT_.out (by kernel_rfl)) (fun _ _ _ h => h) (Or.inr ⟨by rfl, rfl⟩) ?_ ?_; rotate_left; (· (simp only [Act.put, List.setIfInBounds_toArray, List.set_cons_zero, List.set_cons_succ, i64_w, i32_w]; rfl))
                     refine pure_ (i := 29) (N := some 96) (v := undef) (a' := ?_) (bitsA 38 1073741823) rfl rfl (any_of HT_.out (by kernel_rfl)) (fun _ _ _ h => h) (Or.inr ⟨by rfl, rfl⟩) ?_ ?_; rotate_left; (· (simp only [Act.put, List.setIfInBounds_toArray, List.set_cons_zero, List.set_cons_succ, i64_w, i32_w]; rfl))
                     refine pure_ (i := 30) (N := some 97) (v := undef) (a' := ?_) (bitsA 38 2147483647) rfl rfl (any_of HT_.out (by kernel_rfl)) (fun _ _ _ h => h) (Or.inr ⟨by rfl, rfl⟩) ?_ ?_; rotate_left; (· (simp only [Act.put, List.setIfInBounds_toArray, List.set_cons_zero, List.set_cons_succ, i64_w, i32_w]; rfl))
                     refine pure_ (i := 31) (N := some 98) (v := undef) (a' := ?_) (bitsA 38 4294967295) rfl rfl (any_of HT_.out (by kernel_rfl)) (fun _ _ _ h => h) (Or.inr ⟨by rfl, rfl⟩) ?_ ?_; rotate_left; (· (simp only [Act.put, List.setIfInBounds_toArray, List.set_cons_zero, List.set_cons_succ, i64_w, i32_w]; rfl))
                     refine pure_ (i := 32) (N := some 99) (v := undef) (a' := ?_) (bitsA 38 8589934591) rfl rfl (any_of HT_.out (by kernel_rfl)) (fun _ _ _ h => h) (Or.inr ⟨by rfl, rfl⟩) ?_ ?_; rotate_left; (· (simp only [Act.put, List.setIfInBounds_toArray, List.set_cons_zero, List.set_cons_succ, i64_w, i32_w]; rfl))
                     refine pure_ (i := 33) (N := some 100) (v := undef) (a' := ?_) (bitsA 38 17179869183) rfl rfl (any_of HT_.out (by kernel_rfl)) (fun _ _ _ h => h) (Or.inr ⟨by rfl, rfl⟩) ?_ ?_; rotate_left; (· (simp only [Act.put, List.setIfInBounds_toArray, List.set_cons_zero, List.set_cons_succ, i64_w, i32_w]; rfl))
                     refine pure_ (i := 34) (N := some 101) (v := undef) (a' := ?_) (bitsA 38 34359738367) rfl rfl (any_of HT_.out (by kernel_rfl)) (fun _ _ _ h => h) (Or.inr ⟨by rfl, rfl⟩) ?_ ?_; rotate_left; (· (simp only [Act.put, List.setIfInBounds_toArray, List.set_cons_zero, List.set_cons_succ, i64_w, i32_w]; rfl))
                     refine pure_ (i := 35) (N := some 102) (v := undef) (a' := ?_) (bitsA 38 68719476735) rfl rfl (any_of HT_.out (by kernel_rfl)) (fun _ _ _ h => h) (Or.inr ⟨by rfl, rfl⟩) ?_ ?_; rotate_left; (· (simp only [Act.put, List.setIfInBounds_toArray, List.set_cons_zero, List.set_cons_succ, i64_w, i32_w]; rfl))
                     refine pure_ (i := 36) (N := some 103) (v := undef) (a' := ?_) (bitsA 38 137438953471) rfl rfl (any_of HT_.out (by kernel_rfl)) (fun _ _ _ h => h) (Or.inr ⟨by rfl, rfl⟩) ?_ ?_; rotate_left; (· (simp only [Act.put, List.setIfInBounds_toArray, List.set_cons_zero, List.set_cons_succ, i64_w, i32_w]; rfl))
                     refine pu 37 (some 104) (bitsA 38 274877906943) ?_
                     refine done_ (done_of HT_.out (by kernel_rfl)) ?_
                     try go_wp2
                     go_ret
                     exact ⟨ew, bl1 GE185⟩
                 · rw [if_neg c31] at H
                   exact absurd H (by simp)
               · rw [if_neg c30] at H
                 have c30b0 : decide (x5_3 < (((rd_T81 l0 x3_1).f2).length : Int)) = false := decide_eq_false c30
                 clear c30
                 have H' := Aside0.mk H
                 clear H
                 obtain ⟨hcz51_0, hcz51_1, hcz51_2, hfz51_0, hfz51_1, hfz51_2⟩ := cz3 BK185
                 go_wp2
                 go_roundg k3
                 case measure => have := HK1.out; have := HJ4.out; have := HK3.out; omega
                 case rel => exact ⟨(wrap64 (x3_1 + 1)), es, H', ⟨by have := HK1.out; have := HJ4.out; have := HK3.out; omega⟩, ⟨bl1 GE185⟩⟩
       · rw [if_neg c4] at H
         exact absurd H (by simp)
     · rw [if_neg c3] at H
       have c3b0 : decide (x3_1 < (l0.length : Int)) = false := decide_eq_false c3
       clear c3
       obtain rfl := Option.some.inj H
       go_wp2
       go_ret
       exact ⟨ew, bl⟩

end Go.Proofs.Ytplekidnlofioaa.Q
namespace Go.Proofs.Ytplekidnlofioaa.Q
open Go.RowKit Go.Proofs.YtplekidnlofioaaW.PrintWords Go.Proofs.YtplekidnlofioaaW.PrintLast Go.Proofs.YtplekidnlofioaaW.PrintMore
attribute [local go_sem] max2_int min2_int max_two min_two max_three min_three max_four min_four   -- for this text's walks alone
set_option linter.unusedVariables false
set_option linter.unusedSimpArgs false

/-! ### spec_l03At: function 93 -/
def spec_l03At.l0 : Nat → List (S81) → ByteArray → ByteArray → Int → Option (Int)
 | 0, _, _, _, _ => none
 | k + 1, x0, x1, x2, x7 => if x7 < (x0.length : Int) then (if 0 ≤ x7 then (if ((rd_T81 x0 x7).f0).toList = x1.toList then (if ((rd_T81 x0 x7).f1).toList = x2.toList then (some x7) else (spec_l03At.l0 k x0 x1 x2 (wrap64 (x7 + 1)))) else (spec_l03At.l0 k x0 x1 x2 (wrap64 (x7 + 1)))) else (none)) else (some (-1))
def spec_l03At.f (k : Nat) (l0 : List (S81)) (a1 : ByteArray) (a2 : ByteArray) : Option (Int) := spec_l03At.l0 k l0 a1 a2 0
theorem spec_l03At.mono_l : ∀ k, (∀ y0 y1 y2 y3, LeO (spec_l03At.l0 k y0 y1 y2 y3) (spec_l03At.l0 (k + 1) y0 y1 y2 y3))
 | 0 => fun _ _ _ _ r h => by simp [spec_l03At.l0] at h
 | k + 1 => by
  have ih0 := spec_l03At.mono_l k
  · intro y0 y1 y2 y3
    unfold spec_l03At.l0
    repeat' first
    | (with_reducible exact ih0 _ _ _ _)
    | (with_reducible exact LeO.refl _)
    | (with_reducible exact LeO.none _)
    | (with_reducible refine LeO.ite ?_ ?_)
    | (with_reducible refine LeO.bind ?_ (fun _ => ?_))
    | exact ih0 _ _ _ _
    | exact LeO.none _
    | refine LeO.ite ?_ ?_
    | refine LeO.bind ?_ (fun _ => ?_)
theorem spec_l03At.mono : ∀ a0 a1 a2 k, LeO (spec_l03At.f k a0 a1 a2) (spec_l03At.f (k + 1) a0 a1 a2) := by
 intro a0 a1 a2 k
 have ih0 := spec_l03At.mono_l k
 unfold spec_l03At.f
 repeat' first
  | (with_reducible exact ih0 _ _ _ _)
  | (with_reducible exact LeO.refl _)
  | (with_reducible exact LeO.none _)
  | (with_reducible refine LeO.ite ?_ ?_)
  | (with_reducible refine LeO.bind ?_ (fun _ => ?_))
  | exact ih0 _ _ _ _
  | exact LeO.none _
  | refine LeO.ite ?_ ?_
  | refine LeO.bind ?_ (fun _ => ?_)
set_option maxHeartbeats 8000000 in
set_option maxRecDepth 100000 in
theorem spec_l03At.calls (k : Nat) (A0 : Option Addr) (c0 : Nat) (l0 : List (S81)) (a1 : ByteArray) (a2 : ByteArray) (r : Int) (w : World) (hr0 : Kd.C k81 w A0 l0.length l0) (hc0 : l0.length ≤ c0) (h : spec_l03At.f k l0 a1 a2 = some r) :
 Calls Try.prog 93 #[.slice A0 l0.length c0, .string a1, .string a2] w fun e w' => e = .returned (.int .i64 r) ∧ Drawn0 w w' := by
 have HR0 := Aside0.mk hr0
 have HC0 := Aside0.mk hc0
 clear hr0 hc0
 have H : (spec_l03At.l0 k l0 a1 a2 0) = some r := h
 clear h
 have H' := Aside0.mk H
 clear H
 go_enter Try.func93, Try.ntmps93
 go_wp2
 go_loopg [7] k (fun kq v7 w' => ∃ (x7_1 : Int), v7 = .int .i64 x7_1 ∧ Aside0 (spec_l03At.l0 kq l0 a1 a2 x7_1 = some r) ∧ Aside0 (kq ≤ k) ∧ Drawn0 w w')
 case atStart => exact ⟨(0), es, H', ⟨Nat.le_refl _⟩, dr0⟩
 case round =>
  clear H'
  try clear p2
  obtain ⟨x7_1, rfl, HA, HK1, ⟨m1, rfl⟩⟩ := hrel
  cases gk with
  | zero => exact absurd HA.out (by simp [spec_l03At.l0])
  | succ k1 =>
   have H := HA.out
   clear HA
   simp only [spec_l03At.l0] at H
   by_cases c4 : x7_1 < (l0.length : Int)
   · rw [if_pos c4] at H
     have c4b0 : decide (x7_1 < (l0.length : Int)) = true := decide_eq_true c4
     clear c4
     by_cases c5 : 0 ≤ x7_1
     · rw [if_pos c5] at H
       have c5b0 : decide (0 ≤ x7_1) = true := decide_eq_true c5
       clear c5
       by_cases c6 : ((rd_T81 l0 x7_1).f0).toList = a1.toList
       · rw [if_pos c6] at H
         have c6b0 : (((rd_T81 l0 x7_1).f0).toList == a1.toList) = true := beq_iff_eq.mpr c6
         have c6b1 : (((rd_T81 l0 x7_1).f0).toList != a1.toList) = false := bne_eq_false_iff_eq.mpr c6
         clear c6
         by_cases c7 : ((rd_T81 l0 x7_1).f1).toList = a2.toList
         · rw [if_pos c7] at H
           have c7b0 : (((rd_T81 l0 x7_1).f1).toList == a2.toList) = true := beq_iff_eq.mpr c7
           have c7b1 : (((rd_T81 l0 x7_1).f1).toList != a2.toList) = false := bne_eq_false_iff_eq.mpr c7
           clear c7
           obtain rfl := Option.some.inj H
           have p379 : 0 ≤ (x7_1 : Int) := of_decide_eq_true am
           have q379 : x7_1 < (l0.length : Int) := of_decide_eq_true am
           obtain ⟨ad379, A379_2, c379_2, e379, hx379_0, hx379_1, hx379_2, hl379_2, hi379_2⟩ := at_T81 HR0.out x7_1 p379 q379
           cases e379
           have HR379_2 := Aside0.mk hi379_2
           have HC379_2 := Aside0.mk hl379_2
           clear hi379_2 hl379_2
           replace p379 := eq_true p379
           replace q379 := eq_true q379
           have p380 : 0 ≤ (x7_1 : Int) := of_decide_eq_true am
           have q380 : x7_1 < (l0.length : Int) := of_decide_eq_true am
           obtain ⟨ad380, A380_2, c380_2, e380, hx380_0, hx380_1, hx380_2, hl380_2, hi380_2⟩ := at_T81 HR0.out x7_1 p380 q380
           obtain rfl : ad379 = ad380 := (by injection e380)
           have HR380_2 := Aside0.mk hi380_2
           have HC380_2 := Aside0.mk hl380_2
           clear hi380_2 hl380_2
           replace p380 := eq_true p380
           replace q380 := eq_true q380
           have ea_ := Option.some.inj (hx379_2.symm.trans hx380_2)
           injection ea_ with ea_ en_ ec_
           subst ea_
           subst ec_
           clear en_
           go_wp2
           go_ret
           exact ⟨es, dr0⟩
         · rw [if_neg c7] at H
           have c7b0 : (((rd_T81 l0 x7_1).f1).toList == a2.toList) = false := beq_eq_false_iff_ne.mpr c7
           have c7b1 : (((rd_T81 l0 x7_1).f1).toList != a2.toList) = true := bne_iff_ne.mpr c7
           have H' := Aside0.mk H
           clear H
           have p379 : 0 ≤ (x7_1 : Int) := of_decide_eq_true am
           have q379 : x7_1 < (l0.length : Int) := of_decide_eq_true am
           obtain ⟨ad379, A379_2, c379_2, e379, hx379_0, hx379_1, hx379_2, hl379_2, hi379_2⟩ := at_T81 HR0.out x7_1 p379 q379
           cases e379
           have HR379_2 := Aside0.mk hi379_2
           have HC379_2 := Aside0.mk hl379_2
           clear hi379_2 hl379_2
           replace p379 := eq_true p379
           replace q379 := eq_true q379
           have p380 : 0 ≤ (x7_1 : Int) := of_decide_eq_true am
           have q380 : x7_1 < (l0.length : Int) := of_decide_eq_true am
           obtain ⟨ad380, A380_2, c380_2, e380, hx380_0, hx380_1, hx380_2, hl380_2, hi380_2⟩ := at_T81 HR0.out x7_1 p380 q380
           obtain rfl : ad379 = ad380 := (by injection e380)
           have HR380_2 := Aside0.mk hi380_2
           have HC380_2 := Aside0.mk hl380_2
           clear hi380_2 hl380_2
           replace p380 := eq_true p380
           replace q380 := eq_true q380
           have ea_ := Option.some.inj (hx379_2.symm.trans hx380_2)
           injection ea_ with ea_ en_ ec_
           subst ea_
           subst ec_
           clear en_
           go_wp2
           go_roundg k1
           case measure => have := HK1.out; omega
           case rel => exact ⟨(wrap64 (x7_1 + 1)), es, H', ⟨kp⟩, dr0⟩
       · rw [if_neg c6] at H
         have c6b0 : (((rd_T81 l0 x7_1).f0).toList == a1.toList) = false := beq_eq_false_iff_ne.mpr c6
         have c6b1 : (((rd_T81 l0 x7_1).f0).toList != a1.toList) = true := bne_iff_ne.mpr c6
         have H' := Aside0.mk H
         clear H
         have p379 : 0 ≤ (x7_1 : Int) := of_decide_eq_true am
         have q379 : x7_1 < (l0.length : Int) := of_decide_eq_true am
         obtain ⟨ad379, A379_2, c379_2, e379, hx379_0, hx379_1, hx379_2, hl379_2, hi379_2⟩ := at_T81 HR0.out x7_1 p379 q379
         cases e379
         have HR379_2 := Aside0.mk hi379_2
         have HC379_2 := Aside0.mk hl379_2
         clear hi379_2 hl379_2
         replace p379 := eq_true p379
         replace q379 := eq_true q379
         go_wp2
         go_roundg k1
         case measure => have := HK1.out; omega
         case rel => exact ⟨(wrap64 (x7_1 + 1)), es, H', ⟨kp⟩, dr0⟩
     · rw [if_neg c5] at H
       exact absurd H (by simp)
   · rw [if_neg c4] at H
     have c4b0 : decide (x7_1 < (l0.length : Int)) = false := decide_eq_false c4
     clear c4
     obtain rfl := Option.some.inj H
     go_wp2
     go_ret
     exact ⟨es, dr0⟩

end Go.Proofs.Ytplekidnlofioaa.Q
namespace Go.Proofs.Ytplekidnlofioaa.Q
open Go.RowKit Go.Proofs.YtplekidnlofioaaW.PrintWords Go.Proofs.YtplekidnlofioaaW.PrintLast Go.Proofs.YtplekidnlofioaaW.PrintMore
attribute [local go_sem] max2_int min2_int max_two min_two max_three min_three max_four min_four   -- for this text's walks alone
set_option linter.unusedVariables false
set_option linter.unusedSimpArgs false

/-! ### spec_l03Points: function 94 -/
def spec_l03Points.l0 : Nat → List (S37) → List (S37) → Int → Option ((List (S37)))
 | 0, _, _, _ => none
 | k + 1, x0, x3, x4 => if x4 < (x0.length : Int) then (if 0 ≤ x4 then (if x3.length < 8796093022208 then (spec_l03Points.l0 k x0 (x3 ++ [(⟨(rd_T37 x0 x4).f0, (rd_T37 x0 x4).f1⟩ : S37)]) (wrap64 (x4 + 1))) else (none)) else (none)) else (some x3)
def spec_l03Points.f (k : Nat) (l0 : List (S37)) : Option ((List (S37))) := spec_l03Points.l0 k l0 (([] : List (S37))) 0
theorem spec_l03Points.mono_l : ∀ k, (∀ y0 y1 y2, LeO (spec_l03Points.l0 k y0 y1 y2) (spec_l03Points.l0 (k + 1) y0 y1 y2))
 | 0 => fun _ _ _ r h => by simp [spec_l03Points.l0] at h
 | k + 1 => by
  have ih0 := spec_l03Points.mono_l k
  · intro y0 y1 y2
    unfold spec_l03Points.l0
    repeat' first
    | (with_reducible exact ih0 _ _ _)
    | (with_reducible exact LeO.refl _)
    | (with_reducible exact LeO.none _)
    | (with_reducible refine LeO.ite ?_ ?_)
    | (with_reducible refine LeO.bind ?_ (fun _ => ?_))
    | exact ih0 _ _ _
    | exact LeO.none _
    | refine LeO.ite ?_ ?_
    | refine LeO.bind ?_ (fun _ => ?_)
theorem spec_l03Points.mono : ∀ a0 k, LeO (spec_l03Points.f k a0) (spec_l03Points.f (k + 1) a0) := by
 intro a0 k
 have ih0 := spec_l03Points.mono_l k
 unfold spec_l03Points.f
 repeat' first
  | (with_reducible exact ih0 _ _ _)
  | (with_reducible exact LeO.refl _)
  | (with_reducible exact LeO.none _)
  | (with_reducible refine LeO.ite ?_ ?_)
  | (with_reducible refine LeO.bind ?_ (fun _ => ?_))
  | exact ih0 _ _ _
  | exact LeO.none _
  | refine LeO.ite ?_ ?_
  | refine LeO.bind ?_ (fun _ => ?_)
set_option maxHeartbeats 8000000 in
set_option maxRecDepth 100000 in
theorem spec_l03Points.calls (k : Nat) (A0 : Option Addr) (c0 : Nat) (l0 : List (S37)) (r : List (S37)) (w : World) (hr0 : Kd.C k37 w A0 l0.length l0) (hc0 : l0.length ≤ c0) (h : spec_l03Points.f k l0 = some r) :
 Calls Try.prog 94 #[.slice A0 l0.length c0] w fun e w' => ∃ v0_ : Value, e = .returned (v0_) ∧ Kd.R k37 37 w' w.heap.size (fun _ => True) v0_ r ∧ Below w.heap.size w w' := by
 have hu37 := Try.underlying37
 have HR0 := Aside0.mk hr0
 have HC0 := Aside0.mk hc0
 clear hr0 hc0
 have HB := Aside0.mk (Below.refl w.heap.size w)
 have H : (spec_l03Points.l0 k l0 (([] : List (S37))) 0) = some r := h
 clear h
 obtain ⟨y222, hy222⟩ : ∃ y_ : List (S37), y_ = (([] : List (S37))) := ⟨_, rfl⟩
 replace H : (spec_l03Points.l0 k l0 y222 0) = some r := by first | (rw [hy222]; with_reducible exact H) | (have H2_ := (Option.bind_some _ _).symm.trans H; rw [hy222]; with_reducible exact H2_) | (have H2_ := (Option.bind_some _ _).symm.trans H; with_reducible exact H2_) | with_reducible exact H | (rw [hy222]; exact H) | exact H
 have Ny222 := Aside0.mk hy222
 clear hy222
 have H' := Aside0.mk H
 clear H
 go_enter Try.func94, Try.ntmps94
 go_wp2_with (first | ((with_reducible refine gate_dst (N := 5) rfl ?_); refine Kd.R_lit k37 _ 37 ?hg (N := 5) ?hd (xs := ([] : List (S37))) (inner := []) (ok := fun _ => True) (okp := fun _ => True) ?hr ?hp (fun _ hk => hk) trivial (Below.refl _ _) (Nat.le_refl _) (by simp) ?_; (case hd => rfl); (case hg => rfl); (case hr => first | (go_simp; done) | (go_simp; rfl)); (case hp => exact (Reps.none _ _)); intro v223 w2 ho3 hb hg_ hnew_; clear hg_ hnew_; (first | rw [← Ny222.out] at ho3 | (simp only [Int.reduceToNat] at ho3; rw [← Ny222.out] at ho3)); have HO224 := ak (Kd.R_lower ho3 (below_size bl)); replace HB := ak (below_step bl hb); clear hb ho3))
 go_loopg [3, 4] k (fun kq v3 v4 w' => ∃ (x3_1 : List (S37)) (x4_1 : Int), v4 = .int .i64 x4_1 ∧ Aside0 (spec_l03Points.l0 kq l0 x3_1 x4_1 = some r) ∧ Aside0 (kq ≤ k) ∧ Aside0 (Kd.R k37 37 w' w.heap.size (fun _ => True) v3 x3_1) ∧ Aside0 (Below w.heap.size w w'))
 case atStart => exact ⟨(y222), (0), es, H', ⟨Nat.le_refl _⟩, ⟨kr HO224⟩, ⟨bl⟩⟩
 case round =>
  clear H'
  try clear p2
  obtain ⟨x3_1, x4_1, rfl, HA, HK1, HO_3, HB⟩ := hrel
  cases gk with
  | zero => exact absurd HA.out (by simp [spec_l03Points.l0])
  | succ k1 =>
   have H := HA.out
   clear HA
   simp only [spec_l03Points.l0] at H
   by_cases c4 : x4_1 < (l0.length : Int)
   · rw [if_pos c4] at H
     have c4b0 : decide (x4_1 < (l0.length : Int)) = true := decide_eq_true c4
     clear c4
     by_cases c5 : 0 ≤ x4_1
     · rw [if_pos c5] at H
       have c5b0 : decide (0 ≤ x4_1) = true := decide_eq_true c5
       clear c5
       by_cases c6 : x3_1.length < 8796093022208
       · rw [if_pos c6] at H
         have LMc6 := Aside0.mk c6
         clear c6
         obtain ⟨y226, hy226⟩ : ∃ y_ : List (S37), y_ = (x3_1 ++ [(⟨(rd_T37 l0 x4_1).f0, (rd_T37 l0 x4_1).f1⟩ : S37)]) := ⟨_, rfl⟩
         replace H : (spec_l03Points.l0 k1 l0 y226 (wrap64 (x4_1 + 1))) = some r := by first | (rw [hy226]; with_reducible exact H) | (have H2_ := (Option.bind_some _ _).symm.trans H; rw [hy226]; with_reducible exact H2_) | (have H2_ := (Option.bind_some _ _).symm.trans H; with_reducible exact H2_) | with_reducible exact H | (rw [hy226]; exact H) | exact H
         have Ny226 := Aside0.mk hy226
         clear hy226
         have H' := Aside0.mk H
         clear H
         have p225 : 0 ≤ (x4_1 : Int) := of_decide_eq_true am
         have q225 : x4_1 < (l0.length : Int) := of_decide_eq_true am
         obtain ⟨ad225, e225, hx225_0, hx225_1⟩ := at_T37 HR0.out x4_1 p225 q225
         cases e225
         replace hx225_0 := cw hx225_0
         replace hx225_1 := cw hx225_1
         replace p225 := eq_true p225
         replace q225 := eq_true q225
         go_wp2_with (first | ((with_reducible refine gate_builtin (b := .append) (xs := #[.tmp 12, .tmp 17]) rfl ?_); at_builtin; refine Kd.R_append k37 (w0 := w) w.heap.size rfl (.tmp 12) (.tmp 17) 31 37 (.agg #[(.int .i64 0), (.int .i64 0)]) 16 rfl Try.underlying31 info37 rfl (by decide) (by omega) u3 x3_1 (⟨(rd_T37 l0 x4_1).f0, (rd_T37 l0 x4_1).f1⟩ : S37) [.int .i64 ((rd_T37 l0 x4_1).f0), .int .i64 ((rd_T37 l0 x4_1).f1)] (fun _ => True) (fun _ => False) rfl rfl ?aP (fun _ hk => hk.elim) ?aF ?aO ?aB ?aS ?aL ?_; (case aP => exact k37_mkM _ _ _ (⟨(rd_T37 l0 x4_1).f0, (rd_T37 l0 x4_1).f1⟩ : S37)); (case aB => exact bl); (case aF => exact (fun _ _ => trivial)); (case aO => exact (kr HO_3)); (case aS => exact (below_size bl)); (case aL => have := LMc6.out; omega); intro v227 w7 ho hb hg hat; rw [← Ny226.out] at ho; replace HB := ak hb; have HO228 := ak ho; clear HO_3; clear ho hb hg hat))
         go_roundg k1
         case measure => have := HK1.out; omega
         case rel => exact ⟨(y226), (wrap64 (x4_1 + 1)), es, H', ⟨kp⟩, ⟨kr HO228⟩, ⟨bl⟩⟩
       · rw [if_neg c6] at H
         exact absurd H (by simp)
     · rw [if_neg c5] at H
       exact absurd H (by simp)
   · rw [if_neg c4] at H
     have c4b0 : decide (x4_1 < (l0.length : Int)) = false := decide_eq_false c4
     clear c4
     obtain rfl := Option.some.inj H
     go_wp2
     go_ret
     exact ⟨_, ew, kr HO_3, bl⟩

end Go.Proofs.Ytplekidnlofioaa.Q
namespace Go.Proofs.Ytplekidnlofioaa.Q
open Go.RowKit Go.Proofs.YtplekidnlofioaaW.PrintWords Go.Proofs.YtplekidnlofioaaW.PrintLast Go.Proofs.YtplekidnlofioaaW.PrintMore
attribute [local go_sem] max2_int min2_int max_two min_two max_three min_three max_four min_four   -- for this text's walks alone
set_option linter.unusedVariables false
set_option linter.unusedSimpArgs false

/-! ### spec_SeriesOf: function 154 -/
def spec_SeriesOf.f (k : Nat) (l0 : List (S81)) (a1 : ByteArray) (a2 : ByteArray) : Option ((List (S37)) × Bool) := (spec_l03At.f k l0 a1 a2).bind fun t381 => ((spec_StoreOk.f k l0).bind fun t382 => (if t382 = true then (if t381 < 0 then (some (([] : List (S37)), false)) else (if 0 ≤ t381 then (if t381 < (l0.length : Int) then ((spec_l03Points.f k ((rd_T81 l0 t381).f2)).bind fun t384 => (some (t384, true))) else (none)) else (none))) else (some (([] : List (S37)), false))))
theorem spec_SeriesOf.mono : ∀ a0 a1 a2 k, LeO (spec_SeriesOf.f k a0 a1 a2) (spec_SeriesOf.f (k + 1) a0 a1 a2) := by
 intro a0 a1 a2 k
 unfold spec_SeriesOf.f
 repeat' first
  | (with_reducible exact spec_StoreOk.mono _ _)
  | (with_reducible exact spec_l03At.mono _ _ _ _)
  | (with_reducible exact spec_l03Points.mono _ _)
  | (with_reducible exact LeO.refl _)
  | (with_reducible exact LeO.none _)
  | (with_reducible refine LeO.ite ?_ ?_)
  | (with_reducible refine LeO.bind ?_ (fun _ => ?_))
  | exact spec_StoreOk.mono _ _
  | exact spec_l03At.mono _ _ _ _
  | exact spec_l03Points.mono _ _
  | exact LeO.none _
  | refine LeO.ite ?_ ?_
  | refine LeO.bind ?_ (fun _ => ?_)
set_option maxHeartbeats 8000000 in
set_option maxRecDepth 100000 in
theorem spec_SeriesOf.calls (k : Nat) (A0 : Option Addr) (c0 : Nat) (l0 : List (S81)) (a1 : ByteArray) (a2 : ByteArray) (r1 : List (S37)) (r2 : Bool) (w : World) (hr0 : Kd.C k81 w A0 l0.length l0) (hc0 : l0.length ≤ c0) (h : spec_SeriesOf.f k l0 a1 a2 = some (r1, r2)) :
 Calls Try.prog 154 #[.slice A0 l0.length c0, .string a1, .string a2] w fun e w' => ∃ v0_ : Value, e = .returned (.tuple #[v0_, .bool r2]) ∧ Kd.R k37 37 w' w.heap.size (fun _ => True) v0_ r1 ∧ Below w.heap.size w w' := by
 have HR0 := Aside0.mk hr0
 have HC0 := Aside0.mk hc0
 clear hr0 hc0
 have HB := Aside0.mk (Below.refl w.heap.size w)
 have H : ((spec_l03At.f k l0 a1 a2).bind fun t381 => ((spec_StoreOk.f k l0).bind fun t382 => (if t382 = true then (if t381 < 0 then (some (([] : List (S37)), false)) else (if 0 ≤ t381 then (if t381 < (l0.length : Int) then ((spec_l03Points.f k ((rd_T81 l0 t381).f2)).bind fun t384 => (some (t384, true))) else (none)) else (none))) else (some (([] : List (S37)), false))))) = some (r1, r2) := h
 clear h
 obtain ⟨t381, A40, H⟩ := bo H
 have A4 := Aside0.mk A40
 clear A40
 obtain ⟨t382, A50, H⟩ := bo H
 have A5 := Aside0.mk A50
 clear A50
 by_cases c6 : t382 = true
 · subst c6
   replace H := iT H
   by_cases c7 : t381 < 0
   · rw [if_pos c7] at H
     have c7b0 : decide (t381 < 0) = true := decide_eq_true c7
     clear c7
     simp only [Option.some.injEq, Prod.mk.injEq] at H
     obtain ⟨rfl, rfl⟩ := H
     go_enter Try.func154, Try.ntmps154
     go_wp2_with (first | ((with_reducible refine gate_callee (f := 93) rfl ?_); refine gl (some 12) Try.func93 #[.slice A0 l0.length c0, .string a1, .string a2] ?_; (with_reducible refine (spec_l03At.calls k _ _ l0 a1 a2 t381 _ ?side1 ?side2 A4.out).mono ?_); (case side1 => repeat (first | exact HR0.out | (with_reducible refine Kd.C_alloc ?_ _) | (with_reducible refine Kd.C_drewN ?_ _) | (with_reducible refine Kd.C_drew ?_))); (case side2 => exact HC0.out); rintro e w' ⟨rfl, ⟨nd, rfl⟩⟩; refine ⟨_, rfl, ?_⟩) | ((with_reducible refine gate_callee (f := 16) rfl ?_); refine gl (some 14) Try.func16 #[.slice A0 l0.length c0] ?_; (with_reducible refine (spec_StoreOk.calls k _ _ l0 true _ ?side1 ?side2 A5.out).mono ?_); (case side1 => repeat (first | exact HR0.out | (with_reducible refine Kd.C_alloc ?_ _) | (with_reducible refine Kd.C_drewN ?_ _) | (with_reducible refine Kd.C_drew ?_))); (case side2 => exact HC0.out); rintro e w8 ⟨rfl, hb⟩; refine ⟨_, rfl, ?_⟩; replace HB := ak (below_step bl hb); (try clear hb); (try clear hb2); (try clear hk); (try clear hi)))
     go_ret2
     exact ⟨_, ew, by first | exact Kd.R_nil _ _ _ _ _ | exact Kd.N_nil _ _ _ _ _ | exact Kd.V_nil _ _ _ _ _ | exact Kd.Q_nil _ _ _ _ _ | exact Kd.S_nil _ _ _ _ _, bl⟩
   · rw [if_neg c7] at H
     have c7b0 : decide (t381 < 0) = false := decide_eq_false c7
     clear c7
     by_cases c9 : 0 ≤ t381
     · rw [if_pos c9] at H
       have c9b0 : decide (0 ≤ t381) = true := decide_eq_true c9
       clear c9
       by_cases c10 : t381 < (l0.length : Int)
       · rw [if_pos c10] at H
         have c10b0 : decide (t381 < (l0.length : Int)) = true := decide_eq_true c10
         clear c10
         obtain ⟨t384, A110, H⟩ := bo H
         have A11 := Aside0.mk A110
         clear A110
         simp only [Option.some.injEq, Prod.mk.injEq] at H
         obtain ⟨rfl, rfl⟩ := H
         go_enter Try.func154, Try.ntmps154
         go_wp2_with (first | ((with_reducible refine gate_callee (f := 93) rfl ?_); refine gl (some 12) Try.func93 #[.slice A0 l0.length c0, .string a1, .string a2] ?_; (with_reducible refine (spec_l03At.calls k _ _ l0 a1 a2 t381 _ ?side1 ?side2 A4.out).mono ?_); (case side1 => repeat (first | exact HR0.out | (with_reducible refine Kd.C_alloc ?_ _) | (with_reducible refine Kd.C_drewN ?_ _) | (with_reducible refine Kd.C_drew ?_))); (case side2 => exact HC0.out); rintro e w' ⟨rfl, ⟨nd, rfl⟩⟩; refine ⟨_, rfl, ?_⟩) | ((with_reducible refine gate_callee (f := 16) rfl ?_); refine gl (some 14) Try.func16 #[.slice A0 l0.length c0] ?_; (with_reducible refine (spec_StoreOk.calls k _ _ l0 true _ ?side1 ?side2 A5.out).mono ?_); (case side1 => repeat (first | exact HR0.out | (with_reducible refine Kd.C_alloc ?_ _) | (with_reducible refine Kd.C_drewN ?_ _) | (with_reducible refine Kd.C_drew ?_))); (case side2 => exact HC0.out); rintro e w12 ⟨rfl, hb⟩; refine ⟨_, rfl, ?_⟩; replace HB := ak (below_step bl hb); (try clear hb); (try clear hb2); (try clear hk); (try clear hi); have p383 : 0 ≤ (t381 : Int) := of_decide_eq_true am; have q383 : t381 < (l0.length : Int) := of_decide_eq_true am; obtain ⟨ad383, A383_2, c383_2, e383, hx383_0, hx383_1, hx383_2, hl383_2, hi383_2⟩ := at_T81 HR0.out t381 p383 q383; cases e383; replace hx383_0 := cw hx383_0; replace hx383_1 := cw hx383_1; replace hx383_2 := cw hx383_2; have HR383_2 := Aside0.mk hi383_2; have HC383_2 := Aside0.mk hl383_2; clear hi383_2 hl383_2; replace p383 := eq_true p383; replace q383 := eq_true q383) | ((with_reducible refine gate_callee (f := 94) rfl ?_); refine gl (some 25) Try.func94 #[.slice A383_2 ((rd_T81 l0 t381).f2).length c383_2] ?_; (with_reducible refine (spec_l03Points.calls k _ _ ((rd_T81 l0 t381).f2) t384 _ ?side1 ?side2 A11.out).mono ?_); (case side1 => exact cb HR383_2); (case side2 => exact HC383_2.out); rintro e w13 ⟨v385, rfl, ho0, hb⟩; refine ⟨_, rfl, ?_⟩; have HO386 := ak (Kd.R_lower ho0 (below_size bl)); replace HB := ak (below_step bl hb); (try clear hb); (try clear hb2); (try clear hk); (try clear hi); (try clear ho0)))
         go_ret2
         exact ⟨_, ew, kr HO386, bl⟩
       · rw [if_neg c10] at H
         exact absurd H (by simp)
     · rw [if_neg c9] at H
       exact absurd H (by simp)
 · replace c6 := Bool.eq_false_iff.mpr c6
   subst c6
   replace H := iF H
   simp only [Option.some.injEq, Prod.mk.injEq] at H
   obtain ⟨rfl, rfl⟩ := H
   go_enter Try.func154, Try.ntmps154
   go_wp2_with (first | ((with_reducible refine gate_callee (f := 93) rfl ?_); refine gl (some 12) Try.func93 #[.slice A0 l0.length c0, .string a1, .string a2] ?_; (with_reducible refine (spec_l03At.calls k _ _ l0 a1 a2 t381 _ ?side1 ?side2 A4.out).mono ?_); (case side1 => repeat (first | exact HR0.out | (with_reducible refine Kd.C_alloc ?_ _) | (with_reducible refine Kd.C_drewN ?_ _) | (with_reducible refine Kd.C_drew ?_))); (case side2 => exact HC0.out); rintro e w' ⟨rfl, ⟨nd, rfl⟩⟩; refine ⟨_, rfl, ?_⟩) | ((with_reducible refine gate_callee (f := 16) rfl ?_); refine gl (some 14) Try.func16 #[.slice A0 l0.length c0] ?_; (with_reducible refine (spec_StoreOk.calls k _ _ l0 false _ ?side1 ?side2 A5.out).mono ?_); (case side1 => repeat (first | exact HR0.out | (with_reducible refine Kd.C_alloc ?_ _) | (with_reducible refine Kd.C_drewN ?_ _) | (with_reducible refine Kd.C_drew ?_))); (case side2 => exact HC0.out); rintro e w14 ⟨rfl, hb⟩; refine ⟨_, rfl, ?_⟩; replace HB := ak (below_step bl hb); (try clear hb); (try clear hb2); (try clear hk); (try clear hi)))
   go_ret2
   exact ⟨_, ew, by first | exact Kd.R_nil _ _ _ _ _ | exact Kd.N_nil _ _ _ _ _ | exact Kd.V_nil _ _ _ _ _ | exact Kd.Q_nil _ _ _ _ _ | exact Kd.S_nil _ _ _ _ _, bl⟩

end Go.Proofs.Ytplekidnlofioaa.Q
namespace Go.Proofs.Ytplekidnlofioaa.Q
open Go.RowKit Go.Proofs.YtplekidnlofioaaW.PrintWords Go.Proofs.YtplekidnlofioaaW.PrintLast Go.Proofs.YtplekidnlofioaaW.PrintMore
attribute [local go_sem] max2_int min2_int max_two min_two max_three min_three max_four min_four   -- for this text's walks alone
set_option linter.unusedVariables false
set_option linter.unusedSimpArgs false

/-! ### spec_l01Value: function 156 -/
def spec_l01Value.f (a0 : Int) : Option (Bool) := (spec_l01In.f a0 (-1000000000) 1000000000).bind fun t797 => (some t797)
set_option maxHeartbeats 8000000 in
set_option maxRecDepth 100000 in
theorem spec_l01Value.calls (a0 : Int) (r : Bool) (w : World) (h : spec_l01Value.f a0 = some r) :
 Calls Try.prog 156 #[.int .i64 a0] w fun e w' => e = .returned (.bool r) ∧ Drawn0 w w' := by
 have H : ((spec_l01In.f a0 (-1000000000) 1000000000).bind fun t797 => (some t797)) = some r := h
 clear h
 obtain ⟨t797, A20, H⟩ := bo H
 have A2 := Aside0.mk A20
 clear A20
 obtain rfl := Option.some.inj H
 go_enter Try.func156, Try.ntmps156
 go_wp2_with (first | ((with_reducible refine gate_callee (f := 69) rfl ?_); refine gl (some 4) Try.func69 #[.int .i64 a0, .int .i64 (-1000000000), .int .i64 1000000000] ?_; (with_reducible refine (spec_l01In.calls a0 (-1000000000) 1000000000 t797 _ A2.out).mono ?_); rintro e w' ⟨rfl, ⟨nd, rfl⟩⟩; refine ⟨_, rfl, ?_⟩))
 go_ret
 exact ⟨es, dr0⟩

end Go.Proofs.Ytplekidnlofioaa.Q
namespace Go.Proofs.Ytplekidnlofioaa.Q
open Go.RowKit Go.Proofs.YtplekidnlofioaaW.PrintWords Go.Proofs.YtplekidnlofioaaW.PrintLast Go.Proofs.YtplekidnlofioaaW.PrintMore
attribute [local go_sem] max2_int min2_int max_two min_two max_three min_three max_four min_four   -- for this text's walks alone
set_option linter.unusedVariables false
set_option linter.unusedSimpArgs false

/-! ### spec_CutValue: function 157 -/
def spec_CutValue.f (a0 : Int) : Option (Int × Bool) := if a0 > 1000000000 then (some (1000000000, true)) else (if a0 < (-1000000000) then (some ((-1000000000), true)) else (some (a0, false)))
set_option maxHeartbeats 8000000 in
set_option maxRecDepth 100000 in
theorem spec_CutValue.calls (a0 : Int) (r1 : Int) (r2 : Bool) (w : World) (h : spec_CutValue.f a0 = some (r1, r2)) :
 Calls Try.prog 157 #[.int .i64 a0] w fun e w' => e = .returned (.tuple #[.int .i64 r1, .bool r2]) ∧ Drawn0 w w' := by
 have H : (if a0 > 1000000000 then (some (1000000000, true)) else (if a0 < (-1000000000) then (some ((-1000000000), true)) else (some (a0, false)))) = some (r1, r2) := h
 clear h
 by_cases c2 : a0 > 1000000000
 · rw [if_pos c2] at H
   have c2b0 : decide (1000000000 < a0) = true := decide_eq_true c2
   clear c2
   simp only [Option.some.injEq, Prod.mk.injEq] at H
   obtain ⟨rfl, rfl⟩ := H
   go_enter Try.func157, Try.ntmps157
   go_wp2
   go_ret2
   exact ⟨es, dr0⟩
 · rw [if_neg c2] at H
   have c2b0 : decide (1000000000 < a0) = false := decide_eq_false c2
   clear c2
   by_cases c3 : a0 < (-1000000000)
   · rw [if_pos c3] at H
     have c3b0 : decide (a0 < (-1000000000)) = true := decide_eq_true c3
     clear c3
     simp only [Option.some.injEq, Prod.mk.injEq] at H
     obtain ⟨rfl, rfl⟩ := H
     go_enter Try.func157, Try.ntmps157
     go_wp2
     go_ret2
     exact ⟨es, dr0⟩
   · rw [if_neg c3] at H
     have c3b0 : decide (a0 < (-1000000000)) = false := decide_eq_false c3
     clear c3
     simp only [Option.some.injEq, Prod.mk.injEq] at H
     obtain ⟨rfl, rfl⟩ := H
     go_enter Try.func157, Try.ntmps157
     go_wp2
     go_ret2
     exact ⟨es, dr0⟩

end Go.Proofs.Ytplekidnlofioaa.Q
namespace Go.Proofs.Ytplekidnlofioaa.Q
open Go.RowKit Go.Proofs.YtplekidnlofioaaW.PrintWords Go.Proofs.YtplekidnlofioaaW.PrintLast Go.Proofs.YtplekidnlofioaaW.PrintMore
attribute [local go_sem] max2_int min2_int max_two min_two max_three min_three max_four min_four   -- for this text's walks alone
set_option linter.unusedVariables false
set_option linter.unusedSimpArgs false

/-! ### spec_AddValues: function 104 -/
mutual
def spec_AddValues.l0 : Nat → List Int → Int → Bool → Int → Option (Int × Bool)
 | 0, _, _, _, _ => none
 | k + 1, x0, x4, x5, x6 => if x6 < (x0.length : Int) then (if 0 ≤ x6 then ((spec_l01Value.f (rd x0 x6)).bind fun t799 => (if t799 = true then (spec_AddValues.l0 k x0 x4 x5 (wrap64 (x6 + 1))) else (some (0, true)))) else (none)) else (spec_AddValues.l1 k x0 x4 x5 0)
def spec_AddValues.l1 : Nat → List Int → Int → Bool → Int → Option (Int × Bool)
 | 0, _, _, _, _ => none
 | k + 1, x0, x4, x5, x7 => if x7 < (x0.length : Int) then (if 0 ≤ x7 then ((spec_CutValue.f (wrap64 (x4 + (rd x0 x7)))).bind fun bt801 => (if x5 = true then (spec_AddValues.l1 k x0 bt801.1 true (wrap64 (x7 + 1))) else (spec_AddValues.l1 k x0 bt801.1 bt801.2 (wrap64 (x7 + 1))))) else (none)) else (some (x4, x5))
end
def spec_AddValues.f (k : Nat) (l0 : List Int) : Option (Int × Bool) := if (l0.length : Int) > 300 then (some (0, true)) else (spec_AddValues.l0 k l0 0 false 0)
theorem spec_AddValues.mono_l : ∀ k, (∀ y0 y1 y2 y3, LeO (spec_AddValues.l0 k y0 y1 y2 y3) (spec_AddValues.l0 (k + 1) y0 y1 y2 y3)) ∧ (∀ y0 y1 y2 y3, LeO (spec_AddValues.l1 k y0 y1 y2 y3) (spec_AddValues.l1 (k + 1) y0 y1 y2 y3))
 | 0 => ⟨fun _ _ _ _ r h => by simp [spec_AddValues.l0] at h, fun _ _ _ _ r h => by simp [spec_AddValues.l1] at h⟩
 | k + 1 => by
  obtain ⟨ih0, ih1⟩ := spec_AddValues.mono_l k
  refine ⟨?_, ?_⟩
  · intro y0 y1 y2 y3
    unfold spec_AddValues.l0
    repeat' first
    | (with_reducible exact ih0 _ _ _ _)
    | (with_reducible exact ih1 _ _ _ _)
    | (with_reducible exact LeO.refl _)
    | (with_reducible exact LeO.none _)
    | (with_reducible refine LeO.ite ?_ ?_)
    | (with_reducible refine LeO.bind ?_ (fun _ => ?_))
    | exact ih0 _ _ _ _
    | exact ih1 _ _ _ _
    | exact LeO.none _
    | refine LeO.ite ?_ ?_
    | refine LeO.bind ?_ (fun _ => ?_)
  · intro y0 y1 y2 y3
    unfold spec_AddValues.l1
    repeat' first
    | (with_reducible exact ih0 _ _ _ _)
    | (with_reducible exact ih1 _ _ _ _)
    | (with_reducible exact LeO.refl _)
    | (with_reducible exact LeO.none _)
    | (with_reducible refine LeO.ite ?_ ?_)
    | (with_reducible refine LeO.bind ?_ (fun _ => ?_))
    | exact ih0 _ _ _ _
    | exact ih1 _ _ _ _
    | exact LeO.none _
    | refine LeO.ite ?_ ?_
    | refine LeO.bind ?_ (fun _ => ?_)
theorem spec_AddValues.mono : ∀ a0 k, LeO (spec_AddValues.f k a0) (spec_AddValues.f (k + 1) a0) := by
 intro a0 k
 obtain ⟨ih0, ih1⟩ := spec_AddValues.mono_l k
 unfold spec_AddValues.f
 repeat' first
  | (with_reducible exact ih0 _ _ _ _)
  | (with_reducible exact ih1 _ _ _ _)
  | (with_reducible exact LeO.refl _)
  | (with_reducible exact LeO.none _)
  | (with_reducible refine LeO.ite ?_ ?_)
  | (with_reducible refine LeO.bind ?_ (fun _ => ?_))
  | exact ih0 _ _ _ _
  | exact ih1 _ _ _ _
  | exact LeO.none _
  | refine LeO.ite ?_ ?_
  | refine LeO.bind ?_ (fun _ => ?_)
set_option maxHeartbeats 8000000 in
set_option maxRecDepth 100000 in
theorem spec_AddValues.calls (k : Nat) (A0 : Option Addr) (c0 : Nat) (l0 : List Int) (r1 : Int) (r2 : Bool) (w : World) (hr0 : Kd.C (Kd.int .i64) w A0 l0.length l0) (hc0 : l0.length ≤ c0) (h : spec_AddValues.f k l0 = some (r1, r2)) :
 Calls Try.prog 104 #[.slice A0 l0.length c0] w fun e w' => e = .returned (.tuple #[.int .i64 r1, .bool r2]) ∧ Drawn0 w w' := by
 have HR0 := Aside0.mk hr0
 have HC0 := Aside0.mk hc0
 clear hr0 hc0
 have H : (if (l0.length : Int) > 300 then (some (0, true)) else (spec_AddValues.l0 k l0 0 false 0)) = some (r1, r2) := h
 clear h
 by_cases c2 : (l0.length : Int) > 300
 · rw [if_pos c2] at H
   have c2b0 : decide (300 < (l0.length : Int)) = true := decide_eq_true c2
   have c2b1 : decide (300 < l0.length) = true := decide_eq_true (by omega)
   clear c2
   simp only [Option.some.injEq, Prod.mk.injEq] at H
   obtain ⟨rfl, rfl⟩ := H
   go_enter Try.func104, Try.ntmps104
   go_wp2
   go_ret2
   exact ⟨es, dr0⟩
 · rw [if_neg c2] at H
   have c2b0 : decide (300 < (l0.length : Int)) = false := decide_eq_false c2
   have c2b1 : decide (300 < l0.length) = false := decide_eq_false (by omega)
   clear c2
   have H' := Aside0.mk H
   clear H
   go_enter Try.func104, Try.ntmps104
   go_wp2
   go_loopg [6] k (fun kq v6 w' => ∃ (x6_1 : Int), v6 = .int .i64 x6_1 ∧ Aside0 (spec_AddValues.l0 kq l0 0 false x6_1 = some (r1, r2)) ∧ Aside0 (kq ≤ k) ∧ Drawn0 w w')
   case atStart => exact ⟨(0), es, H', ⟨Nat.le_refl _⟩, dr0⟩
   case round =>
    clear H'
    try clear c1
    try clear c2
    try clear c2b0
    try clear c2b1
    try clear p2
    obtain ⟨x6_1, rfl, HA, HK1, ⟨m1, rfl⟩⟩ := hrel
    cases gk with
    | zero => exact absurd HA.out (by simp [spec_AddValues.l0])
    | succ k1 =>
     have H := HA.out
     clear HA
     simp only [spec_AddValues.l0] at H
     by_cases c3 : x6_1 < (l0.length : Int)
     · rw [if_pos c3] at H
       have c3b0 : decide (x6_1 < (l0.length : Int)) = true := decide_eq_true c3
       clear c3
       by_cases c4 : 0 ≤ x6_1
       · rw [if_pos c4] at H
         have c4b0 : decide (0 ≤ x6_1) = true := decide_eq_true c4
         clear c4
         obtain ⟨t799, A50, H⟩ := bo H
         have A5 := Aside0.mk A50
         clear A50
         by_cases c6 : t799 = true
         · subst c6
           replace H := iT H
           have H' := Aside0.mk H
           clear H
           have p798 : 0 ≤ (x6_1 : Int) := of_decide_eq_true am
           have q798 : x6_1 < (l0.length : Int) := of_decide_eq_true am
           obtain ⟨ad798, e798, hx798_0⟩ := Kd.at_int HR0.out x6_1 p798 q798
           cases e798
           replace p798 := eq_true p798
           replace q798 := eq_true q798
           go_wp2_with (first | ((with_reducible refine gate_callee (f := 156) rfl ?_); refine gl (some 23) Try.func156 #[.int .i64 (rd l0 x6_1)] ?_; (with_reducible refine (spec_l01Value.calls (rd l0 x6_1) true _ A5.out).mono ?_); rintro e w' ⟨rfl, ⟨nd, rfl⟩⟩; refine ⟨_, rfl, ?_⟩))
           go_roundg k1
           case measure => have := HK1.out; omega
           case rel => exact ⟨(wrap64 (x6_1 + 1)), es, H', ⟨kp⟩, dr0⟩
         · replace c6 := Bool.eq_false_iff.mpr c6
           subst c6
           replace H := iF H
           simp only [Option.some.injEq, Prod.mk.injEq] at H
           obtain ⟨rfl, rfl⟩ := H
           have p798 : 0 ≤ (x6_1 : Int) := of_decide_eq_true am
           have q798 : x6_1 < (l0.length : Int) := of_decide_eq_true am
           obtain ⟨ad798, e798, hx798_0⟩ := Kd.at_int HR0.out x6_1 p798 q798
           cases e798
           replace p798 := eq_true p798
           replace q798 := eq_true q798
           go_wp2_with (first | ((with_reducible refine gate_callee (f := 156) rfl ?_); refine gl (some 23) Try.func156 #[.int .i64 (rd l0 x6_1)] ?_; (with_reducible refine (spec_l01Value.calls (rd l0 x6_1) false _ A5.out).mono ?_); rintro e w' ⟨rfl, ⟨nd, rfl⟩⟩; refine ⟨_, rfl, ?_⟩))
           go_ret2
           exact ⟨es, dr0⟩
       · rw [if_neg c4] at H
         exact absurd H (by simp)
     · rw [if_neg c3] at H
       have c3b0 : decide (x6_1 < (l0.length : Int)) = false := decide_eq_false c3
       clear c3
       have H' := Aside0.mk H
       clear H
       go_wp2
       go_loopg [4, 5, 7] k1 (fun kq v4 v5 v7 w' => ∃ (x4_2 : Int) (x5_2 : Bool) (x7_2 : Int), v4 = .int .i64 x4_2 ∧ v5 = .bool x5_2 ∧ v7 = .int .i64 x7_2 ∧ Aside0 (spec_AddValues.l1 kq l0 x4_2 x5_2 x7_2 = some (r1, r2)) ∧ Aside0 (kq ≤ k1) ∧ Drawn0 w w')
       case atStart => exact ⟨(0), (false), (0), es, es, es, H', ⟨Nat.le_refl _⟩, dr0⟩
       case round =>
        clear H'
        try clear c1
        try clear c2
        try clear c2b0
        try clear c2b1
        try clear p2
        try clear c3
        try clear c3b0
        try clear c4
        try clear c4b0
        try clear c6
        try clear p6
        try clear hx798_0
        try clear p2
        try clear p798
        try clear q798
        obtain ⟨x4_2, x5_2, x7_2, rfl, rfl, rfl, HA, HK2, ⟨m2, rfl⟩⟩ := hrel
        cases gk with
        | zero => exact absurd HA.out (by simp [spec_AddValues.l1])
        | succ k2 =>
         have H := HA.out
         clear HA
         simp only [spec_AddValues.l1] at H
         by_cases c7 : x7_2 < (l0.length : Int)
         · rw [if_pos c7] at H
           have c7b0 : decide (x7_2 < (l0.length : Int)) = true := decide_eq_true c7
           clear c7
           by_cases c8 : 0 ≤ x7_2
           · rw [if_pos c8] at H
             have c8b0 : decide (0 ≤ x7_2) = true := decide_eq_true c8
             clear c8
             replace H := Option.bind_eq_some_iff.mp H
             obtain ⟨⟨t801, t802⟩, A90, H⟩ := H
             replace H : (if x5_2 = true then (spec_AddValues.l1 k2 l0 t801 true (wrap64 (x7_2 + 1))) else (spec_AddValues.l1 k2 l0 t801 t802 (wrap64 (x7_2 + 1)))) = some (r1, r2) := H
             have A9 := Aside0.mk A90
             clear A90
             by_cases c10 : x5_2 = true
             · subst c10
               replace H := iT H
               have H' := Aside0.mk H
               clear H
               have p800 : 0 ≤ (x7_2 : Int) := of_decide_eq_true am
               have q800 : x7_2 < (l0.length : Int) := of_decide_eq_true am
               obtain ⟨ad800, e800, hx800_0⟩ := Kd.at_int HR0.out x7_2 p800 q800
               cases e800
               replace p800 := eq_true p800
               replace q800 := eq_true q800
               go_wp2_with (first | ((with_reducible refine gate_callee (f := 157) rfl ?_); refine gl (some 38) Try.func157 #[.int .i64 (wrap64 (x4_2 + (rd l0 x7_2)))] ?_; (with_reducible refine (spec_CutValue.calls (wrap64 (x4_2 + (rd l0 x7_2))) t801 t802 _ A9.out).mono ?_); rintro e w' ⟨rfl, ⟨nd, rfl⟩⟩; refine ⟨_, rfl, ?_⟩))
               go_roundg k2
               case measure => have := HK1.out; have := HK2.out; omega
               case rel => exact ⟨(t801), (true), (wrap64 (x7_2 + 1)), es, es, es, H', ⟨by have := HK1.out; have := HK2.out; omega⟩, dr0⟩
             · replace c10 := Bool.eq_false_iff.mpr c10
               subst c10
               replace H := iF H
               have H' := Aside0.mk H
               clear H
               have p800 : 0 ≤ (x7_2 : Int) := of_decide_eq_true am
               have q800 : x7_2 < (l0.length : Int) := of_decide_eq_true am
               obtain ⟨ad800, e800, hx800_0⟩ := Kd.at_int HR0.out x7_2 p800 q800
               cases e800
               replace p800 := eq_true p800
               replace q800 := eq_true q800
               go_wp2_with (first | ((with_reducible refine gate_callee (f := 157) rfl ?_); refine gl (some 38) Try.func157 #[.int .i64 (wrap64 (x4_2 + (rd l0 x7_2)))] ?_; (with_reducible refine (spec_CutValue.calls (wrap64 (x4_2 + (rd l0 x7_2))) t801 t802 _ A9.out).mono ?_); rintro e w' ⟨rfl, ⟨nd, rfl⟩⟩; refine ⟨_, rfl, ?_⟩))
               go_roundg k2
               case measure => have := HK1.out; have := HK2.out; omega
               case rel => exact ⟨(t801), (t802), (wrap64 (x7_2 + 1)), es, es, es, H', ⟨by have := HK1.out; have := HK2.out; omega⟩, dr0⟩
           · rw [if_neg c8] at H
             exact absurd H (by simp)
         · rw [if_neg c7] at H
           have c7b0 : decide (x7_2 < (l0.length : Int)) = false := decide_eq_false c7
           clear c7
           simp only [Option.some.injEq, Prod.mk.injEq] at H
           obtain ⟨rfl, rfl⟩ := H
           go_wp2
           go_ret2
           exact ⟨es, dr0⟩

end Go.Proofs.Ytplekidnlofioaa.Q
namespace Go.Proofs.Ytplekidnlofioaa.Q
open Go.RowKit Go.Proofs.YtplekidnlofioaaW.PrintWords Go.Proofs.YtplekidnlofioaaW.PrintLast Go.Proofs.YtplekidnlofioaaW.PrintMore
attribute [local go_sem] max2_int min2_int max_two min_two max_three min_three max_four min_four   -- for this text's walks alone
set_option linter.unusedVariables false
set_option linter.unusedSimpArgs false

/-! ### spec_FloorDiv: function 184 -/
def spec_FloorDiv.f (a0 : Int) (a1 : Int) : Option (Int) := if a1 < 1 then (some 0) else (if a1 = 0 then (none) else (if (Int.tmod a0 a1) < 0 then (some (wrap64 ((wrap64 (Int.tdiv a0 a1)) - 1))) else (some (wrap64 (Int.tdiv a0 a1)))))
set_option maxHeartbeats 8000000 in
set_option maxRecDepth 100000 in
theorem spec_FloorDiv.calls (a0 : Int) (a1 : Int) (r : Int) (w : World) (h : spec_FloorDiv.f a0 a1 = some r) :
 Calls Try.prog 184 #[.int .i64 a0, .int .i64 a1] w fun e w' => e = .returned (.int .i64 r) ∧ Drawn0 w w' := by
 have H : (if a1 < 1 then (some 0) else (if a1 = 0 then (none) else (if (Int.tmod a0 a1) < 0 then (some (wrap64 ((wrap64 (Int.tdiv a0 a1)) - 1))) else (some (wrap64 (Int.tdiv a0 a1)))))) = some r := h
 clear h
 by_cases c3 : a1 < 1
 · rw [if_pos c3] at H
   have c3b0 : decide (a1 < 1) = true := decide_eq_true c3
   clear c3
   obtain rfl := Option.some.inj H
   go_enter Try.func184, Try.ntmps184
   go_wp2
   go_ret
   exact ⟨es, dr0⟩
 · rw [if_neg c3] at H
   have c3b0 : decide (a1 < 1) = false := decide_eq_false c3
   clear c3
   by_cases c4 : a1 = 0
   · rw [if_pos c4] at H
     exact absurd H (by simp)
   · rw [if_neg c4] at H
     have c4b0 : (a1 == 0) = false := beq_eq_false_iff_ne.mpr c4
     have c4b1 : (a1 != 0) = true := bne_iff_ne.mpr c4
     by_cases c5 : (Int.tmod a0 a1) < 0
     · rw [if_pos c5] at H
       have c5b0 : decide ((Int.tmod a0 a1) < 0) = true := decide_eq_true c5
       clear c5
       obtain rfl := Option.some.inj H
       go_enter Try.func184, Try.ntmps184
       go_wp2
       go_ret
       exact ⟨es, dr0⟩
     · rw [if_neg c5] at H
       have c5b0 : decide ((Int.tmod a0 a1) < 0) = false := decide_eq_false c5
       clear c5
       obtain rfl := Option.some.inj H
       go_enter Try.func184, Try.ntmps184
       go_wp2
       go_ret
       exact ⟨es, dr0⟩

end Go.Proofs.Ytplekidnlofioaa.Q
namespace Go.Proofs.Ytplekidnlofioaa.Q
open Go.RowKit Go.Proofs.YtplekidnlofioaaW.PrintWords Go.Proofs.YtplekidnlofioaaW.PrintLast Go.Proofs.YtplekidnlofioaaW.PrintMore
attribute [local go_sem] max2_int min2_int max_two min_two max_three min_three max_four min_four   -- for this text's walks alone
set_option linter.unusedVariables false
set_option linter.unusedSimpArgs false

/-! ### spec_MeanOf: function 155 -/
def spec_MeanOf.f (k : Nat) (l0 : List Int) : Option (Int × Bool) := (spec_AddValues.f k l0).bind fun bt803 => (if (l0.length : Int) = 0 then (some (0, false)) else (if bt803.2 = true then (some (0, false)) else ((spec_FloorDiv.f bt803.1 (l0.length : Int)).bind fun t805 => (some (t805, true)))))
theorem spec_MeanOf.mono : ∀ a0 k, LeO (spec_MeanOf.f k a0) (spec_MeanOf.f (k + 1) a0) := by
 intro a0 k
 unfold spec_MeanOf.f
 repeat' first
  | (with_reducible exact spec_AddValues.mono _ _)
  | (with_reducible exact LeO.refl _)
  | (with_reducible exact LeO.none _)
  | (with_reducible refine LeO.ite ?_ ?_)
  | (with_reducible refine LeO.bind ?_ (fun _ => ?_))
  | exact spec_AddValues.mono _ _
  | exact LeO.none _
  | refine LeO.ite ?_ ?_
  | refine LeO.bind ?_ (fun _ => ?_)
set_option maxHeartbeats 8000000 in
set_option maxRecDepth 100000 in
theorem spec_MeanOf.calls (k : Nat) (A0 : Option Addr) (c0 : Nat) (l0 : List Int) (r1 : Int) (r2 : Bool) (w : World) (hr0 : Kd.C (Kd.int .i64) w A0 l0.length l0) (hc0 : l0.length ≤ c0) (h : spec_MeanOf.f k l0 = some (r1, r2)) :
 Calls Try.prog 155 #[.slice A0 l0.length c0] w fun e w' => e = .returned (.tuple #[.int .i64 r1, .bool r2]) ∧ Drawn0 w w' := by
 have HR0 := Aside0.mk hr0
 have HC0 := Aside0.mk hc0
 clear hr0 hc0
 have H : ((spec_AddValues.f k l0).bind fun bt803 => (if (l0.length : Int) = 0 then (some (0, false)) else (if bt803.2 = true then (some (0, false)) else ((spec_FloorDiv.f bt803.1 (l0.length : Int)).bind fun t805 => (some (t805, true)))))) = some (r1, r2) := h
 clear h
 replace H := Option.bind_eq_some_iff.mp H
 obtain ⟨⟨t803, t804⟩, A20, H⟩ := H
 replace H : (if (l0.length : Int) = 0 then (some (0, false)) else (if t804 = true then (some (0, false)) else ((spec_FloorDiv.f t803 (l0.length : Int)).bind fun t805 => (some (t805, true))))) = some (r1, r2) := H
 have A2 := Aside0.mk A20
 clear A20
 by_cases c3 : (l0.length : Int) = 0
 · rw [if_pos c3] at H
   have c3b0 : ((l0.length : Int) == 0) = true := beq_iff_eq.mpr c3
   have c3b1 : ((l0.length : Int) != 0) = false := bne_eq_false_iff_eq.mpr c3
   clear c3
   simp only [Option.some.injEq, Prod.mk.injEq] at H
   obtain ⟨rfl, rfl⟩ := H
   go_enter Try.func155, Try.ntmps155
   go_wp2_with (first | ((with_reducible refine gate_callee (f := 104) rfl ?_); refine gl (some 8) Try.func104 #[.slice A0 l0.length c0] ?_; (with_reducible refine (spec_AddValues.calls k _ _ l0 t803 t804 _ ?side1 ?side2 A2.out).mono ?_); (case side1 => repeat (first | exact HR0.out | (with_reducible refine Kd.C_alloc ?_ _) | (with_reducible refine Kd.C_drewN ?_ _) | (with_reducible refine Kd.C_drew ?_))); (case side2 => exact HC0.out); rintro e w' ⟨rfl, ⟨nd, rfl⟩⟩; refine ⟨_, rfl, ?_⟩))
   go_ret2
   exact ⟨es, dr0⟩
 · rw [if_neg c3] at H
   have c3b0 : ((l0.length : Int) == 0) = false := beq_eq_false_iff_ne.mpr c3
   have c3b1 : ((l0.length : Int) != 0) = true := bne_iff_ne.mpr c3
   have c3b2 : ¬ (l0 = []) := fun h_ => c3 (by rw [h_]; rfl)
   by_cases c4 : t804 = true
   · subst c4
     replace H := iT H
     simp only [Option.some.injEq, Prod.mk.injEq] at H
     obtain ⟨rfl, rfl⟩ := H
     go_enter Try.func155, Try.ntmps155
     go_wp2_with (first | ((with_reducible refine gate_callee (f := 104) rfl ?_); refine gl (some 8) Try.func104 #[.slice A0 l0.length c0] ?_; (with_reducible refine (spec_AddValues.calls k _ _ l0 t803 true _ ?side1 ?side2 A2.out).mono ?_); (case side1 => repeat (first | exact HR0.out | (with_reducible refine Kd.C_alloc ?_ _) | (with_reducible refine Kd.C_drewN ?_ _) | (with_reducible refine Kd.C_drew ?_))); (case side2 => exact HC0.out); rintro e w' ⟨rfl, ⟨nd, rfl⟩⟩; refine ⟨_, rfl, ?_⟩))
     go_ret2
     exact ⟨es, dr0⟩
   · replace c4 := Bool.eq_false_iff.mpr c4
     subst c4
     replace H := iF H
     obtain ⟨t805, A50, H⟩ := bo H
     have A5 := Aside0.mk A50
     clear A50
     simp only [Option.some.injEq, Prod.mk.injEq] at H
     obtain ⟨rfl, rfl⟩ := H
     go_enter Try.func155, Try.ntmps155
     go_wp2_with (first | ((with_reducible refine gate_callee (f := 104) rfl ?_); refine gl (some 8) Try.func104 #[.slice A0 l0.length c0] ?_; (with_reducible refine (spec_AddValues.calls k _ _ l0 t803 false _ ?side1 ?side2 A2.out).mono ?_); (case side1 => repeat (first | exact HR0.out | (with_reducible refine Kd.C_alloc ?_ _) | (with_reducible refine Kd.C_drewN ?_ _) | (with_reducible refine Kd.C_drew ?_))); (case side2 => exact HC0.out); rintro e w' ⟨rfl, ⟨nd, rfl⟩⟩; refine ⟨_, rfl, ?_⟩) | ((with_reducible refine gate_callee (f := 184) rfl ?_); refine gl (some 20) Try.func184 #[.int .i64 t803, .int .i64 (l0.length : Int)] ?_; (with_reducible refine (spec_FloorDiv.calls t803 (l0.length : Int) t805 _ A5.out).mono ?_); rintro e w' ⟨rfl, ⟨nd, rfl⟩⟩; refine ⟨_, rfl, ?_⟩))
     go_ret2
     exact ⟨es, dr0⟩

end Go.Proofs.Ytplekidnlofioaa.Q
namespace Go.Proofs.Ytplekidnlofioaa.Q
open Go.RowKit Go.Proofs.YtplekidnlofioaaW.PrintWords Go.Proofs.YtplekidnlofioaaW.PrintLast Go.Proofs.YtplekidnlofioaaW.PrintMore
attribute [local go_sem] max2_int min2_int max_two min_two max_three min_three max_four min_four   -- for this text's walks alone
set_option linter.unusedVariables false
set_option linter.unusedSimpArgs false

/-! ### spec_AverageOf: function 102 -/
def spec_AverageOf.l0 : Nat → Int → Int → List Int → List (S37) → Int → Option (Int × Bool)
 | 0, _, _, _, _, _ => none
 | k + 1, x3, x4, x12, x13, x15 => if x15 < (x13.length : Int) then (if 0 ≤ x15 then (if ((rd_T37 x13 x15).f0) > x3 then (if ((rd_T37 x13 x15).f0) ≤ x4 then (if x12.length < 17592186044416 then (spec_AverageOf.l0 k x3 x4 (x12 ++ [(rd_T37 x13 x15).f1]) x13 (wrap64 (x15 + 1))) else (none)) else (spec_AverageOf.l0 k x3 x4 x12 x13 (wrap64 (x15 + 1)))) else (spec_AverageOf.l0 k x3 x4 x12 x13 (wrap64 (x15 + 1)))) else (none)) else ((spec_MeanOf.f k x12).bind fun bt819 => (some (bt819.1, bt819.2)))
def spec_AverageOf.f (k : Nat) (l0 : List (S81)) (a1 : ByteArray) (a2 : ByteArray) (a3 : Int) (a4 : Int) : Option (Int × Bool) := (spec_SeriesOf.f k l0 a1 a2).bind fun bt809 => (spec_AverageOf.l0 k a3 a4 (([] : List Int)) bt809.1 0)
theorem spec_AverageOf.mono_l : ∀ k, (∀ y0 y1 y2 y3 y4, LeO (spec_AverageOf.l0 k y0 y1 y2 y3 y4) (spec_AverageOf.l0 (k + 1) y0 y1 y2 y3 y4))
 | 0 => fun _ _ _ _ _ r h => by simp [spec_AverageOf.l0] at h
 | k + 1 => by
  have ih0 := spec_AverageOf.mono_l k
  · intro y0 y1 y2 y3 y4
    unfold spec_AverageOf.l0
    repeat' first
    | (with_reducible exact ih0 _ _ _ _ _)
    | (with_reducible exact spec_MeanOf.mono _ _)
    | (with_reducible exact spec_SeriesOf.mono _ _ _ _)
    | (with_reducible exact LeO.refl _)
    | (with_reducible exact LeO.none _)
    | (with_reducible refine LeO.ite ?_ ?_)
    | (with_reducible refine LeO.bind ?_ (fun _ => ?_))
    | exact ih0 _ _ _ _ _
    | exact spec_MeanOf.mono _ _
    | exact spec_SeriesOf.mono _ _ _ _
    | exact LeO.none _
    | refine LeO.ite ?_ ?_
    | refine LeO.bind ?_ (fun _ => ?_)
theorem spec_AverageOf.mono : ∀ a0 a1 a2 a3 a4 k, LeO (spec_AverageOf.f k a0 a1 a2 a3 a4) (spec_AverageOf.f (k + 1) a0 a1 a2 a3 a4) := by
 intro a0 a1 a2 a3 a4 k
 have ih0 := spec_AverageOf.mono_l k
 unfold spec_AverageOf.f
 repeat' first
  | (with_reducible exact ih0 _ _ _ _ _)
  | (with_reducible exact spec_MeanOf.mono _ _)
  | (with_reducible exact spec_SeriesOf.mono _ _ _ _)
  | (with_reducible exact LeO.refl _)
  | (with_reducible exact LeO.none _)
  | (with_reducible refine LeO.ite ?_ ?_)
  | (with_reducible refine LeO.bind ?_ (fun _ => ?_))
  | exact ih0 _ _ _ _ _
  | exact spec_MeanOf.mono _ _
  | exact spec_SeriesOf.mono _ _ _ _
  | exact LeO.none _
  | refine LeO.ite ?_ ?_
  | refine LeO.bind ?_ (fun _ => ?_)
set_option maxHeartbeats 8000000 in
set_option maxRecDepth 100000 in
theorem spec_AverageOf.calls (k : Nat) (A0 : Option Addr) (c0 : Nat) (l0 : List (S81)) (a1 : ByteArray) (a2 : ByteArray) (a3 : Int) (a4 : Int) (r1 : Int) (r2 : Bool) (w : World) (hr0 : Kd.C k81 w A0 l0.length l0) (hc0 : l0.length ≤ c0) (h : spec_AverageOf.f k l0 a1 a2 a3 a4 = some (r1, r2)) :
 Calls Try.prog 102 #[.slice A0 l0.length c0, .string a1, .string a2, .int .i64 a3, .int .i64 a4] w fun e w' => e = .returned (.tuple #[.int .i64 r1, .bool r2]) ∧ Below w.heap.size w w' := by
 have HR0 := Aside0.mk hr0
 have HC0 := Aside0.mk hc0
 clear hr0 hc0
 have HB := Aside0.mk (Below.refl w.heap.size w)
 have H : ((spec_SeriesOf.f k l0 a1 a2).bind fun bt809 => (spec_AverageOf.l0 k a3 a4 (([] : List Int)) bt809.1 0)) = some (r1, r2) := h
 clear h
 obtain ⟨y806, hy806⟩ : ∃ y_ : List Int, y_ = (([] : List Int)) := ⟨_, rfl⟩
 replace H : ((spec_SeriesOf.f k l0 a1 a2).bind fun bt809 => (spec_AverageOf.l0 k a3 a4 y806 bt809.1 0)) = some (r1, r2) := by first | (rw [hy806]; with_reducible exact H) | (have H2_ := (Option.bind_some _ _).symm.trans H; rw [hy806]; with_reducible exact H2_) | (have H2_ := (Option.bind_some _ _).symm.trans H; with_reducible exact H2_) | with_reducible exact H | (rw [hy806]; exact H) | exact H
 have Ny806 := Aside0.mk hy806
 clear hy806
 replace H := Option.bind_eq_some_iff.mp H
 obtain ⟨⟨t809, t810⟩, A60, H⟩ := H
 replace H : (spec_AverageOf.l0 k a3 a4 y806 t809 0) = some (r1, r2) := H
 have A6 := Aside0.mk A60
 clear A60
 have H' := Aside0.mk H
 clear H
 go_enter Try.func102, Try.ntmps102
 go_wp2_with (first | ((with_reducible refine gate_dst (N := 16) rfl ?_); refine Kd.R_lit (Kd.int .i64) _ 3 ?hg (N := 16) ?hd (xs := ([] : List Int)) (inner := []) (ok := fun _ => True) (okp := fun _ => True) ?hr ?hp (fun _ hk => hk) trivial (Below.refl _ _) (Nat.le_refl _) (by simp) ?_; (case hd => rfl); (case hg => rfl); (case hr => first | (go_simp; done) | (go_simp; rfl)); (case hp => exact (Reps.none _ _)); intro v807 w7 ho8 hb hg_ hnew_; clear hg_ hnew_; (first | rw [← Ny806.out] at ho8 | (simp only [Int.reduceToNat] at ho8; rw [← Ny806.out] at ho8)); have HO808 := ak (Kd.R_lower ho8 (below_size bl)); replace HB := ak (below_step bl hb); clear hb ho8) | ((with_reducible refine gate_callee (f := 154) rfl ?_); refine gl (some 21) Try.func154 #[.slice A0 l0.length c0, .string a1, .string a2] ?_; (with_reducible refine (spec_SeriesOf.calls k _ _ l0 a1 a2 t809 t810 _ ?side1 ?side2 A6.out).mono ?_); (case side1 => exact cb HR0); (case side2 => exact HC0.out); rintro e w9 ⟨v811, rfl, ho0, hb⟩; refine ⟨_, rfl, ?_⟩; replace HO808 := ak (Kd.R_below (kr HO808) hb); have HO812 := ak (Kd.R_lower ho0 (below_size bl)); replace HB := ak (below_step bl hb); (try clear hb); (try clear hb2); (try clear hk); (try clear hi); (try clear ho0)))
 go_loopg [12, 15] k (fun kq v12 v15 w' => ∃ (x12_1 : List Int) (x15_1 : Int), v15 = .int .i64 x15_1 ∧ Aside0 (spec_AverageOf.l0 kq a3 a4 x12_1 t809 x15_1 = some (r1, r2)) ∧ Aside0 (kq ≤ k) ∧ Aside0 (Kd.R (Kd.int .i64) 3 w' w.heap.size (fun _ => True) v12 x12_1) ∧ Aside0 (Kd.R k37 37 w' w.heap.size (fun _ => True) v811 t809) ∧ Aside0 (Below w.heap.size w w'))
 case atStart => exact ⟨(y806), (0), es, H', ⟨Nat.le_refl _⟩, ⟨kr HO808⟩, ⟨kr HO812⟩, ⟨bl⟩⟩
 case round =>
  clear H'
  try clear c1
  try clear p2
  obtain ⟨x12_1, x15_1, rfl, HA, HK1, HO_12, HO_13, HB⟩ := hrel
  cases gk with
  | zero => exact absurd HA.out (by simp [spec_AverageOf.l0])
  | succ k1 =>
   have H := HA.out
   clear HA
   simp only [spec_AverageOf.l0] at H
   by_cases c10 : x15_1 < (t809.length : Int)
   · rw [if_pos c10] at H
     have c10b0 : decide (x15_1 < (t809.length : Int)) = true := decide_eq_true c10
     clear c10
     by_cases c11 : 0 ≤ x15_1
     · rw [if_pos c11] at H
       have c11b0 : decide (0 ≤ x15_1) = true := decide_eq_true c11
       clear c11
       by_cases c12 : ((rd_T37 t809 x15_1).f0) > a3
       · rw [if_pos c12] at H
         have c12b0 : decide (a3 < ((rd_T37 t809 x15_1).f0)) = true := decide_eq_true c12
         clear c12
         by_cases c13 : ((rd_T37 t809 x15_1).f0) ≤ a4
         · rw [if_pos c13] at H
           have c13b0 : decide (((rd_T37 t809 x15_1).f0) ≤ a4) = true := decide_eq_true c13
           clear c13
           by_cases c14 : x12_1.length < 17592186044416
           · rw [if_pos c14] at H
             have LMc14 := Aside0.mk c14
             clear c14
             obtain ⟨y816, hy816⟩ : ∃ y_ : List Int, y_ = (x12_1 ++ [(rd_T37 t809 x15_1).f1]) := ⟨_, rfl⟩
             replace H : (spec_AverageOf.l0 k1 a3 a4 y816 t809 (wrap64 (x15_1 + 1))) = some (r1, r2) := by first | (rw [hy816]; with_reducible exact H) | (have H2_ := (Option.bind_some _ _).symm.trans H; rw [hy816]; with_reducible exact H2_) | (have H2_ := (Option.bind_some _ _).symm.trans H; with_reducible exact H2_) | with_reducible exact H | (rw [hy816]; exact H) | exact H
             have Ny816 := Aside0.mk hy816
             clear hy816
             have H' := Aside0.mk H
             clear H
             obtain ⟨Ao15, co15, eo15⟩ := Kd.R_slice HO_13.out
             subst eo15
             have p813 : 0 ≤ (x15_1 : Int) := of_decide_eq_true am
             have q813 : x15_1 < (t809.length : Int) := of_decide_eq_true am
             obtain ⟨ad813, e813, hx813_0, hx813_1⟩ := at_T37 (Kd.R_reads' HO_13.out).2.2 x15_1 p813 q813
             cases e813
             replace p813 := eq_true p813
             replace q813 := eq_true q813
             have p814 : 0 ≤ (x15_1 : Int) := of_decide_eq_true am
             have q814 : x15_1 < (t809.length : Int) := of_decide_eq_true am
             obtain ⟨ad814, e814, hx814_0, hx814_1⟩ := at_T37 (Kd.R_reads' HO_13.out).2.2 x15_1 p814 q814
             obtain rfl : ad813 = ad814 := (by injection e814)
             replace p814 := eq_true p814
             replace q814 := eq_true q814
             have p815 : 0 ≤ (x15_1 : Int) := of_decide_eq_true am
             have q815 : x15_1 < (t809.length : Int) := of_decide_eq_true am
             obtain ⟨ad815, e815, hx815_0, hx815_1⟩ := at_T37 (Kd.R_reads' HO_13.out).2.2 x15_1 p815 q815
             obtain rfl : ad813 = ad815 := (by injection e815)
             replace p815 := eq_true p815
             replace q815 := eq_true q815
             go_wp2_with (first | ((with_reducible refine gate_builtin (b := .append) (xs := #[.tmp 46, .tmp 52]) rfl ?_); at_builtin; refine Kd.R_append (Kd.int .i64) (w0 := w) w.heap.size rfl (.tmp 46) (.tmp 52) 25 3 (.int .i64 0) 8 rfl Try.underlying25 info3 rfl (by decide) (by omega) u12 x12_1 ((rd_T37 t809 x15_1).f1) [.int .i64 ((rd_T37 t809 x15_1).f1)] (fun _ => True) (fun _ => False) rfl rfl ?aP (fun _ hk => hk.elim) ?aF ?aO ?aB ?aS ?aL ?_; (case aP => exact rfl); (case aB => exact bl); (case aF => exact (fun _ _ => trivial)); (case aO => exact (kr HO_12)); (case aS => exact (below_size bl)); (case aL => have := LMc14.out; omega); intro v817 w16 ho hb hg hat; rw [← Ny816.out] at ho; replace HO_13 := ak (Kd.R_over' (kr HO_13) (Kd.R_typed (kr HO_12)) (by decide) hg); replace HB := ak hb; have HO818 := ak ho; clear HO_12; clear ho hb hg hat))
             go_roundg k1
             case measure => have := HK1.out; omega
             case rel => exact ⟨(y816), (wrap64 (x15_1 + 1)), es, H', ⟨kp⟩, ⟨kr HO818⟩, ⟨kr HO_13⟩, ⟨bl⟩⟩
           · rw [if_neg c14] at H
             exact absurd H (by simp)
         · rw [if_neg c13] at H
           have c13b0 : decide (((rd_T37 t809 x15_1).f0) ≤ a4) = false := decide_eq_false c13
           clear c13
           have H' := Aside0.mk H
           clear H
           obtain ⟨Ao17, co17, eo17⟩ := Kd.R_slice HO_13.out
           subst eo17
           have p813 : 0 ≤ (x15_1 : Int) := of_decide_eq_true am
           have q813 : x15_1 < (t809.length : Int) := of_decide_eq_true am
           obtain ⟨ad813, e813, hx813_0, hx813_1⟩ := at_T37 (Kd.R_reads' HO_13.out).2.2 x15_1 p813 q813
           cases e813
           replace p813 := eq_true p813
           replace q813 := eq_true q813
           have p814 : 0 ≤ (x15_1 : Int) := of_decide_eq_true am
           have q814 : x15_1 < (t809.length : Int) := of_decide_eq_true am
           obtain ⟨ad814, e814, hx814_0, hx814_1⟩ := at_T37 (Kd.R_reads' HO_13.out).2.2 x15_1 p814 q814
           obtain rfl : ad813 = ad814 := (by injection e814)
           replace p814 := eq_true p814
           replace q814 := eq_true q814
           go_wp2
           go_roundg k1
           case measure => have := HK1.out; omega
           case rel => exact ⟨(x12_1), (wrap64 (x15_1 + 1)), es, H', ⟨kp⟩, ⟨kr HO_12⟩, ⟨kr HO_13⟩, ⟨bl⟩⟩
       · rw [if_neg c12] at H
         have c12b0 : decide (a3 < ((rd_T37 t809 x15_1).f0)) = false := decide_eq_false c12
         clear c12
         have H' := Aside0.mk H
         clear H
         obtain ⟨Ao18, co18, eo18⟩ := Kd.R_slice HO_13.out
         subst eo18
         have p813 : 0 ≤ (x15_1 : Int) := of_decide_eq_true am
         have q813 : x15_1 < (t809.length : Int) := of_decide_eq_true am
         obtain ⟨ad813, e813, hx813_0, hx813_1⟩ := at_T37 (Kd.R_reads' HO_13.out).2.2 x15_1 p813 q813
         cases e813
         replace p813 := eq_true p813
         replace q813 := eq_true q813
         go_wp2
         go_roundg k1
         case measure => have := HK1.out; omega
         case rel => exact ⟨(x12_1), (wrap64 (x15_1 + 1)), es, H', ⟨kp⟩, ⟨kr HO_12⟩, ⟨kr HO_13⟩, ⟨bl⟩⟩
     · rw [if_neg c11] at H
       exact absurd H (by simp)
   · rw [if_neg c10] at H
     have c10b0 : decide (x15_1 < (t809.length : Int)) = false := decide_eq_false c10
     clear c10
     replace H := Option.bind_eq_some_iff.mp H
     obtain ⟨⟨t819, t820⟩, A190, H⟩ := H
     replace H : (some (t819, t820)) = some (r1, r2) := H
     have A19 := Aside0.mk A190
     clear A190
     simp only [Option.some.injEq, Prod.mk.injEq] at H
     obtain ⟨rfl, rfl⟩ := H
     obtain ⟨Ao20, co20, eo20⟩ := Kd.R_slice HO_13.out
     subst eo20
     obtain ⟨Ao21, co21, eo21⟩ := Kd.R_slice HO_12.out
     subst eo21
     go_wp2_with (first | ((with_reducible refine gate_callee (f := 155) rfl ?_); refine gl (some 55) Try.func155 #[.slice Ao21 x12_1.length co21] ?_; (with_reducible refine (spec_MeanOf.calls k1 _ _ x12_1 t819 t820 _ ?side1 ?side2 A19.out).mono ?_); (case side1 => repeat (first | exact (Kd.R_reads' HO_12.out).2.2 | (with_reducible refine Kd.C_alloc ?_ _) | (with_reducible refine Kd.C_drewN ?_ _) | (with_reducible refine Kd.C_drew ?_))); (case side2 => exact (Kd.R_reads' HO_12.out).2.1); rintro e w' ⟨rfl, ⟨nd, rfl⟩⟩; refine ⟨_, rfl, ?_⟩))
     go_ret2
     exact ⟨ew, bl⟩

end Go.Proofs.Ytplekidnlofioaa.Q
namespace Go.Proofs.Ytplekidnlofioaa.Q
open Go.RowKit Go.Proofs.YtplekidnlofioaaW.PrintWords Go.Proofs.YtplekidnlofioaaW.PrintLast Go.Proofs.YtplekidnlofioaaW.PrintMore
attribute [local go_sem] max2_int min2_int max_two min_two max_three min_three max_four min_four   -- for this text's walks alone
set_option linter.unusedVariables false
set_option linter.unusedSimpArgs false

/-! ### spec_LatestOf: function 103 -/
def spec_LatestOf.f (k : Nat) (l0 : List (S81)) (a1 : ByteArray) (a2 : ByteArray) : Option (Int × Int × Bool) := (spec_SeriesOf.f k l0 a1 a2).bind fun bt388 => (if bt388.2 = true then (if 0 ≤ (wrap64 ((bt388.1.length : Int) - 1)) then (if (wrap64 ((bt388.1.length : Int) - 1)) < (bt388.1.length : Int) then (some ((rd_T37 bt388.1 (wrap64 ((bt388.1.length : Int) - 1))).f0, (rd_T37 bt388.1 (wrap64 ((bt388.1.length : Int) - 1))).f1, true)) else (none)) else (none)) else (some (0, 0, false)))
theorem spec_LatestOf.mono : ∀ a0 a1 a2 k, LeO (spec_LatestOf.f k a0 a1 a2) (spec_LatestOf.f (k + 1) a0 a1 a2) := by
 intro a0 a1 a2 k
 unfold spec_LatestOf.f
 repeat' first
  | (with_reducible exact spec_SeriesOf.mono _ _ _ _)
  | (with_reducible exact LeO.refl _)
  | (with_reducible exact LeO.none _)
  | (with_reducible refine LeO.ite ?_ ?_)
  | (with_reducible refine LeO.bind ?_ (fun _ => ?_))
  | exact spec_SeriesOf.mono _ _ _ _
  | exact LeO.none _
  | refine LeO.ite ?_ ?_
  | refine LeO.bind ?_ (fun _ => ?_)
set_option maxHeartbeats 8000000 in
set_option maxRecDepth 100000 in
theorem spec_LatestOf.calls (k : Nat) (A0 : Option Addr) (c0 : Nat) (l0 : List (S81)) (a1 : ByteArray) (a2 : ByteArray) (r1 : Int) (r2 : Int) (r3 : Bool) (w : World) (hr0 : Kd.C k81 w A0 l0.length l0) (hc0 : l0.length ≤ c0) (h : spec_LatestOf.f k l0 a1 a2 = some (r1, r2, r3)) :
 Calls Try.prog 103 #[.slice A0 l0.length c0, .string a1, .string a2] w fun e w' => e = .returned (.tuple #[.agg #[.int .i64 r1, .int .i64 r2], .bool r3]) ∧ Below w.heap.size w w' := by
 have hu37 := Try.underlying37
 have HR0 := Aside0.mk hr0
 have HC0 := Aside0.mk hc0
 clear hr0 hc0
 have HB := Aside0.mk (Below.refl w.heap.size w)
 have H : ((spec_SeriesOf.f k l0 a1 a2).bind fun bt388 => (if bt388.2 = true then (if 0 ≤ (wrap64 ((bt388.1.length : Int) - 1)) then (if (wrap64 ((bt388.1.length : Int) - 1)) < (bt388.1.length : Int) then (some ((rd_T37 bt388.1 (wrap64 ((bt388.1.length : Int) - 1))).f0, (rd_T37 bt388.1 (wrap64 ((bt388.1.length : Int) - 1))).f1, true)) else (none)) else (none)) else (some (0, 0, false)))) = some (r1, r2, r3) := h
 clear h
 replace H := Option.bind_eq_some_iff.mp H
 obtain ⟨⟨t388, t389⟩, A40, H⟩ := H
 replace H : (if t389 = true then (if 0 ≤ (wrap64 ((t388.length : Int) - 1)) then (if (wrap64 ((t388.length : Int) - 1)) < (t388.length : Int) then (some ((rd_T37 t388 (wrap64 ((t388.length : Int) - 1))).f0, (rd_T37 t388 (wrap64 ((t388.length : Int) - 1))).f1, true)) else (none)) else (none)) else (some (0, 0, false))) = some (r1, r2, r3) := H
 have A4 := Aside0.mk A40
 clear A40
 by_cases c5 : t389 = true
 · subst c5
   replace H := iT H
   obtain ⟨ji6, hji6⟩ : ∃ j_ : Int, (wrap64 ((t388.length : Int) - 1)) = j_ := ⟨_, rfl⟩
   replace H : (if 0 ≤ (ji6) then (if (ji6) < (t388.length : Int) then (some ((rd_T37 t388 (ji6)).f0, (rd_T37 t388 (ji6)).f1, true)) else (none)) else (none)) = some (r1, r2, r3) := by first | (rw [hji6] at H; exact H) | (simp only [hji6] at H ⊢; exact H)
   (try rw [hji6] at A4)
   have hji6w : (IntKind.i64.wrap ((t388.length : Int) - 1)) = ji6 := (i64_w _).trans hji6
   by_cases c7 : 0 ≤ (ji6)
   · rw [if_pos c7] at H
     have c7b0 : decide (0 ≤ (ji6)) = true := decide_eq_true c7
     clear c7
     by_cases c8 : (ji6) < (t388.length : Int)
     · rw [if_pos c8] at H
       have c8b0 : decide ((ji6) < (t388.length : Int)) = true := decide_eq_true c8
       clear c8
       simp only [Option.some.injEq, Prod.mk.injEq] at H
       obtain ⟨rfl, rfl, rfl⟩ := H
       go_enter Try.func103, Try.ntmps103
       go_wp2_with (first | ((with_reducible refine gate_dst (N := 6) rfl ?_); refine bx 6 #[.int .i64 0, .int .i64 0] 37 ?_; intro gb387 hg w9 hbox hb; have BK387 := ak hbox; have GW387 := gs hg bl; have GE387 := gs hg bl; replace HB := ak (below_step bl hb); clear hb hbox hg) | ((with_reducible refine gate_callee (f := 154) rfl ?_); refine gl (some 14) Try.func154 #[.slice A0 l0.length c0, .string a1, .string a2] ?_; (with_reducible refine (spec_SeriesOf.calls k _ _ l0 a1 a2 t388 true _ ?side1 ?side2 A4.out).mono ?_); (case side1 => exact cb HR0); (case side2 => exact HC0.out); rintro e w10 ⟨v390, rfl, ho0, hb⟩; refine ⟨_, rfl, ?_⟩; have HO391 := ak (Kd.R_lower (Kd.R_newB ho0 (g := gb387) (o := .cells #[.int .i64 0, .int .i64 0] 37 (0, 0)) (bk BK387)) (below_size (bl1 GE387))); replace BK387 := bb BK387 hb; replace HB := ak (below_step (bl1 GE387) hb); (try clear hb); (try clear hb2); (try clear hk); (try clear hi); (try clear ho0); obtain ⟨Ao11, co11, eo11⟩ := Kd.R_slice HO391.out; subst eo11; have p392 : 0 ≤ ((ji6) : Int) := of_decide_eq_true am; have q392 : (ji6) < (t388.length : Int) := of_decide_eq_true am; obtain ⟨ad392, e392, hx392_0, hx392_1⟩ := at_T37 (Kd.R_reads' HO391.out).2.2 (ji6) p392 q392; cases e392; replace p392 := eq_true p392; replace q392 := eq_true q392; obtain ⟨hcz12_0, hcz12_1, hfz12_0, hfz12_1⟩ := cz2 BK387))
       refine bodyPost_ret (results_ct rfl _ _ gb387 37 #[.int .i64 ((rd_T37 t388 (ji6)).f0), .int .i64 ((rd_T37 t388 (ji6)).f1)] (0, 0) _ rfl (by (with_reducible repeat (first | refine blk_drewN ?_ _ | refine blk_drew ?_ | refine blk_alloc ?_ _)); refine blk_put (cs := #[.int .i64 ((rd_T37 t388 (ji6)).f0), .int .i64 0]) ?_ 1 _ rfl; (with_reducible repeat (first | refine blk_drewN ?_ _ | refine blk_drew ?_ | refine blk_alloc ?_ _)); refine blk_put (cs := #[.int .i64 0, .int .i64 0]) ?_ 0 _ rfl; (with_reducible repeat (first | refine blk_drewN ?_ _ | refine blk_drew ?_ | refine blk_alloc ?_ _)); exact BK387.out) Try.underlying37 rfl (by kernel_rfl)) rfl ?_
       exact ⟨by first | rfl | (simp [errW_none, errW_some] <;> rfl) | (simp only [← hji6]; first | rfl | (simp [errW_none, errW_some] <;> rfl)) | (simp [*, errW_none, errW_some] <;> rfl), bl1 GE387⟩
     · rw [if_neg c8] at H
       exact absurd H (by simp)
   · rw [if_neg c7] at H
     exact absurd H (by simp)
 · replace c5 := Bool.eq_false_iff.mpr c5
   subst c5
   replace H := iF H
   simp only [Option.some.injEq, Prod.mk.injEq] at H
   obtain ⟨rfl, rfl, rfl⟩ := H
   go_enter Try.func103, Try.ntmps103
   go_wp2_with (first | ((with_reducible refine gate_dst (N := 6) rfl ?_); refine bx 6 #[.int .i64 0, .int .i64 0] 37 ?_; intro gb387 hg w13 hbox hb; have BK387 := ak hbox; have GW387 := gs hg bl; have GE387 := gs hg bl; replace HB := ak (below_step bl hb); clear hb hbox hg) | ((with_reducible refine gate_callee (f := 154) rfl ?_); refine gl (some 14) Try.func154 #[.slice A0 l0.length c0, .string a1, .string a2] ?_; (with_reducible refine (spec_SeriesOf.calls k _ _ l0 a1 a2 t388 false _ ?side1 ?side2 A4.out).mono ?_); (case side1 => exact cb HR0); (case side2 => exact HC0.out); rintro e w14 ⟨v390, rfl, ho0, hb⟩; refine ⟨_, rfl, ?_⟩; have HO391 := ak (Kd.R_lower (Kd.R_newB ho0 (g := gb387) (o := .cells #[.int .i64 0, .int .i64 0] 37 (0, 0)) (bk BK387)) (below_size (bl1 GE387))); replace BK387 := bb BK387 hb; replace HB := ak (below_step (bl1 GE387) hb); (try clear hb); (try clear hb2); (try clear hk); (try clear hi); (try clear ho0); obtain ⟨hcz15_0, hcz15_1, hfz15_0, hfz15_1⟩ := cz2 BK387))
   refine bodyPost_ret (results_ct rfl _ _ gb387 37 #[.int .i64 0, .int .i64 0] (0, 0) _ rfl (by (with_reducible repeat (first | refine blk_drewN ?_ _ | refine blk_drew ?_ | refine blk_alloc ?_ _)); refine blk_put (cs := #[.int .i64 0, .int .i64 0]) ?_ 1 _ rfl; (with_reducible repeat (first | refine blk_drewN ?_ _ | refine blk_drew ?_ | refine blk_alloc ?_ _)); refine blk_put (cs := #[.int .i64 0, .int .i64 0]) ?_ 0 _ rfl; (with_reducible repeat (first | refine blk_drewN ?_ _ | refine blk_drew ?_ | refine blk_alloc ?_ _)); exact BK387.out) Try.underlying37 rfl (by kernel_rfl)) rfl ?_
   exact ⟨ew, bl1 GE387⟩

end Go.Proofs.Ytplekidnlofioaa.Q
namespace Go.Proofs.Ytplekidnlofioaa.Q
open Go.RowKit Go.Proofs.YtplekidnlofioaaW.PrintWords Go.Proofs.YtplekidnlofioaaW.PrintLast Go.Proofs.YtplekidnlofioaaW.PrintMore
attribute [local go_sem] max2_int min2_int max_two min_two max_three min_three max_four min_four   -- for this text's walks alone
set_option linter.unusedVariables false
set_option linter.unusedSimpArgs false

/-! ### spec_PodOk: function 137 -/
def spec_PodOk.f (k : Nat) (a0_0 : ByteArray) (a0_1 : Int) (a0_2 : Int) (a0_3 : Bool) : Option (Bool) := (spec_NameOk.f k a0_0).bind fun t371 => (if t371 = true then ((spec_l02Tick.f a0_1).bind fun t372 => (if t372 = true then ((spec_l01In.f a0_2 0 2).bind fun t373 => (some t373)) else (some false))) else (some false))
theorem spec_PodOk.mono : ∀ a0 a1 a2 a3 k, LeO (spec_PodOk.f k a0 a1 a2 a3) (spec_PodOk.f (k + 1) a0 a1 a2 a3) := by
 intro a0 a1 a2 a3 k
 unfold spec_PodOk.f
 repeat' first
  | (with_reducible exact spec_NameOk.mono _ _)
  | (with_reducible exact LeO.refl _)
  | (with_reducible exact LeO.none _)
  | (with_reducible refine LeO.ite ?_ ?_)
  | (with_reducible refine LeO.bind ?_ (fun _ => ?_))
  | exact spec_NameOk.mono _ _
  | exact LeO.none _
  | refine LeO.ite ?_ ?_
  | refine LeO.bind ?_ (fun _ => ?_)
set_option maxHeartbeats 8000000 in
set_option maxRecDepth 100000 in
theorem spec_PodOk.calls (k : Nat) (a0_0 : ByteArray) (a0_1 : Int) (a0_2 : Int) (a0_3 : Bool) (r : Bool) (w : World) (h : spec_PodOk.f k a0_0 a0_1 a0_2 a0_3 = some r) :
 Calls Try.prog 137 #[.agg #[.string a0_0, .int .i64 a0_1, .int .i64 a0_2, .bool a0_3]] w fun e w' => e = .returned (.bool r) ∧ Below w.heap.size w w' := by
 have hu147 := Try.underlying147
 have HB := Aside0.mk (Below.refl w.heap.size w)
 have H : ((spec_NameOk.f k a0_0).bind fun t371 => (if t371 = true then ((spec_l02Tick.f a0_1).bind fun t372 => (if t372 = true then ((spec_l01In.f a0_2 0 2).bind fun t373 => (some t373)) else (some false))) else (some false))) = some r := h
 clear h
 obtain ⟨t371, A20, H⟩ := bo H
 have A2 := Aside0.mk A20
 clear A20
 by_cases c3 : t371 = true
 · subst c3
   replace H := iT H
   obtain ⟨t372, A40, H⟩ := bo H
   have A4 := Aside0.mk A40
   clear A40
   by_cases c5 : t372 = true
   · subst c5
     replace H := iT H
     obtain ⟨t373, A60, H⟩ := bo H
     have A6 := Aside0.mk A60
     clear A60
     obtain rfl := Option.some.inj H
     go_enter Try.func137, Try.ntmps137
     go_wp2_with (first | ((with_reducible refine gate_dst (N := 1) rfl ?_); refine bx 1 #[.string a0_0, .int .i64 a0_1, .int .i64 a0_2, .bool a0_3] 147 ?_; intro gb370 hg w7 hbox hb; have BK370 := ak hbox; have GW370 := gs hg bl; have GE370 := gs hg bl; replace HB := ak (below_step bl hb); clear hb hbox hg; obtain ⟨hcz8_0, hcz8_1, hcz8_2, hcz8_3, hfz8_0, hfz8_1, hfz8_2, hfz8_3⟩ := cz4 BK370) | ((with_reducible refine gate_callee (f := 68) rfl ?_); refine gl (some 5) Try.func68 #[.string a0_0] ?_; (with_reducible refine (spec_NameOk.calls k a0_0 true _ A2.out).mono ?_); rintro e w' ⟨rfl, ⟨nd, rfl⟩⟩; refine ⟨_, rfl, ?_⟩) | (go_at_call 71; (with_reducible refine (spec_l02Tick.calls a0_1 true _ A4.out).mono ?_); rintro e w' ⟨rfl, ⟨nd, rfl⟩⟩) | (go_at_call 69; (with_reducible refine (spec_l01In.calls a0_2 0 2 t373 _ A6.out).mono ?_); rintro e w' ⟨rfl, ⟨nd, rfl⟩⟩))
     go_ret
     exact ⟨ew, bl1 GE370⟩
   · replace c5 := Bool.eq_false_iff.mpr c5
     subst c5
     replace H := iF H
     obtain rfl := Option.some.inj H
     go_enter Try.func137, Try.ntmps137
     go_wp2_with (first | ((with_reducible refine gate_dst (N := 1) rfl ?_); refine bx 1 #[.string a0_0, .int .i64 a0_1, .int .i64 a0_2, .bool a0_3] 147 ?_; intro gb370 hg w9 hbox hb; have BK370 := ak hbox; have GW370 := gs hg bl; have GE370 := gs hg bl; replace HB := ak (below_step bl hb); clear hb hbox hg; obtain ⟨hcz10_0, hcz10_1, hcz10_2, hcz10_3, hfz10_0, hfz10_1, hfz10_2, hfz10_3⟩ := cz4 BK370) | ((with_reducible refine gate_callee (f := 68) rfl ?_); refine gl (some 5) Try.func68 #[.string a0_0] ?_; (with_reducible refine (spec_NameOk.calls k a0_0 true _ A2.out).mono ?_); rintro e w' ⟨rfl, ⟨nd, rfl⟩⟩; refine ⟨_, rfl, ?_⟩) | (go_at_call 71; (with_reducible refine (spec_l02Tick.calls a0_1 false _ A4.out).mono ?_); rintro e w' ⟨rfl, ⟨nd, rfl⟩⟩))
     go_ret
     exact ⟨ew, bl1 GE370⟩
 · replace c3 := Bool.eq_false_iff.mpr c3
   subst c3
   replace H := iF H
   obtain rfl := Option.some.inj H
   go_enter Try.func137, Try.ntmps137
   go_wp2_with (first | ((with_reducible refine gate_dst (N := 1) rfl ?_); refine bx 1 #[.string a0_0, .int .i64 a0_1, .int .i64 a0_2, .bool a0_3] 147 ?_; intro gb370 hg w11 hbox hb; have BK370 := ak hbox; have GW370 := gs hg bl; have GE370 := gs hg bl; replace HB := ak (below_step bl hb); clear hb hbox hg; obtain ⟨hcz12_0, hcz12_1, hcz12_2, hcz12_3, hfz12_0, hfz12_1, hfz12_2, hfz12_3⟩ := cz4 BK370) | ((with_reducible refine gate_callee (f := 68) rfl ?_); refine gl (some 5) Try.func68 #[.string a0_0] ?_; (with_reducible refine (spec_NameOk.calls k a0_0 false _ A2.out).mono ?_); rintro e w' ⟨rfl, ⟨nd, rfl⟩⟩; refine ⟨_, rfl, ?_⟩))
   go_ret
   exact ⟨ew, bl1 GE370⟩

end Go.Proofs.Ytplekidnlofioaa.Q
namespace Go.Proofs.Ytplekidnlofioaa.Q
open Go.RowKit Go.Proofs.YtplekidnlofioaaW.PrintWords Go.Proofs.YtplekidnlofioaaW.PrintLast Go.Proofs.YtplekidnlofioaaW.PrintMore
attribute [local go_sem] max2_int min2_int max_two min_two max_three min_three max_four min_four   -- for this text's walks alone
set_option linter.unusedVariables false
set_option linter.unusedSimpArgs false

/-! ### spec_PodsOk: function 86 -/
def spec_PodsOk.l0 : Nat → List (S147) → Int → Option (Bool)
 | 0, _, _ => none
 | k + 1, x0, x3 => if x3 < (x0.length : Int) then (if 0 ≤ x3 then ((spec_PodOk.f k ((rd_T147 x0 x3).f0) ((rd_T147 x0 x3).f1) ((rd_T147 x0 x3).f2) ((rd_T147 x0 x3).f3)).bind fun t375 => (if t375 = true then (if x3 > 0 then (if 0 ≤ (wrap64 (x3 - 1)) then (if (wrap64 (x3 - 1)) < (x0.length : Int) then ((spec_l02Less.f k ((rd_T147 x0 (wrap64 (x3 - 1))).f0) ((rd_T147 x0 x3).f0)).bind fun t378 => (if t378 = true then (spec_PodsOk.l0 k x0 (wrap64 (x3 + 1))) else (some false))) else (none)) else (none)) else (spec_PodsOk.l0 k x0 (wrap64 (x3 + 1)))) else (some false))) else (none)) else (some true)
def spec_PodsOk.f (k : Nat) (l0 : List (S147)) : Option (Bool) := if (l0.length : Int) > 12 then (some false) else (spec_PodsOk.l0 k l0 0)
theorem spec_PodsOk.mono_l : ∀ k, (∀ y0 y1, LeO (spec_PodsOk.l0 k y0 y1) (spec_PodsOk.l0 (k + 1) y0 y1))
 | 0 => fun _ _ r h => by simp [spec_PodsOk.l0] at h
 | k + 1 => by
  have ih0 := spec_PodsOk.mono_l k
  · intro y0 y1
    unfold spec_PodsOk.l0
    repeat' first
    | (with_reducible exact ih0 _ _)
    | (with_reducible exact spec_PodOk.mono _ _ _ _ _)
    | (with_reducible exact spec_l02Less.mono _ _ _)
    | (with_reducible exact LeO.refl _)
    | (with_reducible exact LeO.none _)
    | (with_reducible refine LeO.ite ?_ ?_)
    | (with_reducible refine LeO.bind ?_ (fun _ => ?_))
    | exact ih0 _ _
    | exact spec_PodOk.mono _ _ _ _ _
    | exact spec_l02Less.mono _ _ _
    | exact LeO.none _
    | refine LeO.ite ?_ ?_
    | refine LeO.bind ?_ (fun _ => ?_)
theorem spec_PodsOk.mono : ∀ a0 k, LeO (spec_PodsOk.f k a0) (spec_PodsOk.f (k + 1) a0) := by
 intro a0 k
 have ih0 := spec_PodsOk.mono_l k
 unfold spec_PodsOk.f
 repeat' first
  | (with_reducible exact ih0 _ _)
  | (with_reducible exact spec_PodOk.mono _ _ _ _ _)
  | (with_reducible exact spec_l02Less.mono _ _ _)
  | (with_reducible exact LeO.refl _)
  | (with_reducible exact LeO.none _)
  | (with_reducible refine LeO.ite ?_ ?_)
  | (with_reducible refine LeO.bind ?_ (fun _ => ?_))
  | exact ih0 _ _
  | exact spec_PodOk.mono _ _ _ _ _
  | exact spec_l02Less.mono _ _ _
  | exact LeO.none _
  | refine LeO.ite ?_ ?_
  | refine LeO.bind ?_ (fun _ => ?_)
def spec_PodsOk.T6 : Bool × List (List Nat × List Nat) := (true, [([], []), ([], []), ([0, 1], [0, 1]), ([2], [2]), ([3], [3]), ([4], [4]), ([5, 4], [5]), ([6], [6]), ([7, 6], [6, 7]), ([8, 6, 6], [6, 8]), ([9], [9]), ([9], [9]), ([11, 9], [9, 11]), ([10, 12, 9], [9, 10, 12]), ([13, 9], [9, 13]), ([14, 9], [9, 14]), ([9], [9]), ([9], [9]), ([16, 17, 9], [9, 16, 17]), ([18, 9], [9, 18]), ([19, 9], [9, 19]), ([15, 20, 9, 9], [9, 15, 20]), ([21, 9], [9, 21]), ([9, 22, 6], [6, 9, 22]), ([6, 23], [6, 23])])
def spec_PodsOk.B6 : List Nat := [0, 0, 3, 7, 15, 31, 63, 127, 255, 511, 1023, 1023, 3071, 8191, 16383, 32767, 1023, 1023, 197631, 459775, 984063, 2097151, 4194303, 8388607, 16777215]
theorem spec_PodsOk.tab6 : rtab .any (opsOf Try.f86 6) = spec_PodsOk.T6 := by kernel_rfl
theorem spec_PodsOk.bits6 : waitsOk spec_PodsOk.T6.2 spec_PodsOk.B6 = true := by kernel_rfl
set_option maxHeartbeats 8000000 in
set_option maxRecDepth 100000 in
theorem spec_PodsOk.calls (k : Nat) (A0 : Option Addr) (c0 : Nat) (l0 : List (S147)) (r : Bool) (w : World) (hr0 : Kd.C k147 w A0 l0.length l0) (hc0 : l0.length ≤ c0) (h : spec_PodsOk.f k l0 = some r) :
 Calls Try.prog 86 #[.slice A0 l0.length c0] w fun e w' => e = .returned (.bool r) ∧ Below w.heap.size w w' := by
 have hu147 := Try.underlying147
 have HR0 := Aside0.mk hr0
 have HC0 := Aside0.mk hc0
 clear hr0 hc0
 have HB := Aside0.mk (Below.refl w.heap.size w)
 have H : (if (l0.length : Int) > 12 then (some false) else (spec_PodsOk.l0 k l0 0)) = some r := h
 clear h
 by_cases c2 : (l0.length : Int) > 12
 · rw [if_pos c2] at H
   have c2b0 : decide (12 < (l0.length : Int)) = true := decide_eq_true c2
   have c2b1 : decide (12 < l0.length) = true := decide_eq_true (by omega)
   clear c2
   obtain rfl := Option.some.inj H
   go_enter Try.func86, Try.ntmps86
   go_wp2
   go_ret
   exact ⟨ew, bl⟩
 · rw [if_neg c2] at H
   have c2b0 : decide (12 < (l0.length : Int)) = false := decide_eq_false c2
   have c2b1 : decide (12 < l0.length) = false := decide_eq_false (by omega)
   clear c2
   have H' := Aside0.mk H
   clear H
   go_enter Try.func86, Try.ntmps86
   go_wp2
   go_loopg [3] k (fun kq v3 w' => ∃ (x3_1 : Int), v3 = .int .i64 x3_1 ∧ Aside0 (spec_PodsOk.l0 kq l0 x3_1 = some r) ∧ Aside0 (kq ≤ k) ∧ Aside0 (Below w.heap.size w w'))
   case atStart => exact ⟨(0), es, H', ⟨Nat.le_refl _⟩, ⟨bl⟩⟩
   case round =>
    clear H'
    try clear c2
    try clear c2b0
    try clear c2b1
    try clear p2
    obtain ⟨x3_1, rfl, HA, HK1, HB⟩ := hrel
    cases gk with
    | zero => exact absurd HA.out (by simp [spec_PodsOk.l0])
    | succ k1 =>
     have H := HA.out
     clear HA
     simp only [spec_PodsOk.l0] at H
     by_cases c3 : x3_1 < (l0.length : Int)
     · rw [if_pos c3] at H
       have c3b0 : decide (x3_1 < (l0.length : Int)) = true := decide_eq_true c3
       clear c3
       by_cases c4 : 0 ≤ x3_1
       · rw [if_pos c4] at H
         have c4b0 : decide (0 ≤ x3_1) = true := decide_eq_true c4
         clear c4
         obtain ⟨t375, A50, H⟩ := bo H
         have A5 := Aside0.mk A50
         clear A50
         by_cases c6 : t375 = true
         · subst c6
           replace H := iT H
           by_cases c7 : x3_1 > 0
           · rw [if_pos c7] at H
             have c7b0 : decide (0 < x3_1) = true := decide_eq_true c7
             clear c7
             obtain ⟨ji8, hji8⟩ : ∃ j_ : Int, (wrap64 (x3_1 - 1)) = j_ := ⟨_, rfl⟩
             replace H : (if 0 ≤ (ji8) then (if (ji8) < (l0.length : Int) then ((spec_l02Less.f k1 ((rd_T147 l0 (ji8)).f0) ((rd_T147 l0 x3_1).f0)).bind fun t378 => (if t378 = true then (spec_PodsOk.l0 k1 l0 (wrap64 (x3_1 + 1))) else (some false))) else (none)) else (none)) = some r := by first | (rw [hji8] at H; exact H) | (simp only [hji8] at H ⊢; exact H)
             (try rw [hji8] at A5)
             have hji8w : (IntKind.i64.wrap (x3_1 - 1)) = ji8 := (i64_w _).trans hji8
             by_cases c9 : 0 ≤ (ji8)
             · rw [if_pos c9] at H
               have c9b0 : decide (0 ≤ (ji8)) = true := decide_eq_true c9
               clear c9
               by_cases c10 : (ji8) < (l0.length : Int)
               · rw [if_pos c10] at H
                 have c10b0 : decide ((ji8) < (l0.length : Int)) = true := decide_eq_true c10
                 clear c10
                 obtain ⟨t378, A110, H⟩ := bo H
                 have A11 := Aside0.mk A110
                 clear A110
                 by_cases c12 : t378 = true
                 · subst c12
                   replace H := iT H
                   have H' := Aside0.mk H
                   clear H
                   try go_wp2
                   replace HB := ak (below_drew1 HB.out)
                   have p374 : 0 ≤ (x3_1 : Int) := of_decide_eq_true am
                   have q374 : x3_1 < (l0.length : Int) := of_decide_eq_true am
                   obtain ⟨ad374, e374, hx374_0, hx374_1, hx374_2, hx374_3⟩ := at_T147 HR0.out x3_1 p374 q374
                   have hw374_3 := hx374_3
                   have hw374_2 := hx374_2
                   have hw374_1 := hx374_1
                   have hw374_0 := hx374_0
                   cases e374
                   replace hx374_0 := cw hx374_0
                   replace hx374_1 := cw hx374_1
                   replace hx374_2 := cw hx374_2
                   replace hx374_3 := cw hx374_3
                   replace p374 := eq_true p374
                   replace q374 := eq_true q374
                   have p376 : 0 ≤ ((ji8) : Int) := of_decide_eq_true am
                   have q376 : (ji8) < (l0.length : Int) := of_decide_eq_true am
                   obtain ⟨ad376, e376, hx376_0, hx376_1, hx376_2, hx376_3⟩ := at_T147 HR0.out (ji8) p376 q376
                   have hw376_3 := hx376_3
                   have hw376_2 := hx376_2
                   have hw376_1 := hx376_1
                   have hw376_0 := hx376_0
                   obtain rfl : ad374 = ad376 := (by injection e376)
                   replace hx376_0 := cw hx376_0
                   replace hx376_1 := cw hx376_1
                   replace hx376_2 := cw hx376_2
                   replace hx376_3 := cw hx376_3
                   replace p376 := eq_true p376
                   replace q376 := eq_true q376
                   have p377 : 0 ≤ (x3_1 : Int) := of_decide_eq_true am
                   have q377 : x3_1 < (l0.length : Int) := of_decide_eq_true am
                   obtain ⟨ad377, e377, hx377_0, hx377_1, hx377_2, hx377_3⟩ := at_T147 HR0.out x3_1 p377 q377
                   have hw377_3 := hx377_3
                   have hw377_2 := hx377_2
                   have hw377_1 := hx377_1
                   have hw377_0 := hx377_0
                   obtain rfl : ad374 = ad377 := (by injection e377)
                   replace hx377_0 := cw hx377_0
                   replace hx377_1 := cw hx377_1
                   replace hx377_2 := cw hx377_2
                   replace hx377_3 := cw hx377_3
                   replace p377 := eq_true p377
                   replace q377 := eq_true q377
                   refine start_ (n := 25) (S := fun w' => w'.cell? (ad374.add ((x3_1).toNat * 4)) = some (.string ((rd_T147 l0 x3_1).f0)) ∧ w'.cell? ⟨(ad374.add ((x3_1).toNat * 4)).block, (ad374.add ((x3_1).toNat * 4)).off + 1, none⟩ = some (.int .i64 ((rd_T147 l0 x3_1).f1)) ∧ w'.cell? ⟨(ad374.add ((x3_1).toNat * 4)).block, (ad374.add ((x3_1).toNat * 4)).off + 2, none⟩ = some (.int .i64 ((rd_T147 l0 x3_1).f2)) ∧ w'.cell? ⟨(ad374.add ((x3_1).toNat * 4)).block, (ad374.add ((x3_1).toNat * 4)).off + 3, none⟩ = some (.bool ((rd_T147 l0 x3_1).f3)) ∧ w'.cell? (ad374.add (((ji8)).toNat * 4)) = some (.string ((rd_T147 l0 (ji8)).f0)) ∧ w'.cell? ⟨(ad374.add (((ji8)).toNat * 4)).block, (ad374.add (((ji8)).toNat * 4)).off + 1, none⟩ = some (.int .i64 ((rd_T147 l0 (ji8)).f1)) ∧ w'.cell? ⟨(ad374.add (((ji8)).toNat * 4)).block, (ad374.add (((ji8)).toNat * 4)).off + 2, none⟩ = some (.int .i64 ((rd_T147 l0 (ji8)).f2)) ∧ w'.cell? ⟨(ad374.add (((ji8)).toNat * 4)).block, (ad374.add (((ji8)).toNat * 4)).off + 3, none⟩ = some (.bool ((rd_T147 l0 (ji8)).f3)) ∧ w'.cell? (ad374.add ((x3_1).toNat * 4)) = some (.string ((rd_T147 l0 x3_1).f0)) ∧ w'.cell? ⟨(ad374.add ((x3_1).toNat * 4)).block, (ad374.add ((x3_1).toNat * 4)).off + 1, none⟩ = some (.int .i64 ((rd_T147 l0 x3_1).f1)) ∧ w'.cell? ⟨(ad374.add ((x3_1).toNat * 4)).block, (ad374.add ((x3_1).toNat * 4)).off + 2, none⟩ = some (.int .i64 ((rd_T147 l0 x3_1).f2)) ∧ w'.cell? ⟨(ad374.add ((x3_1).toNat * 4)).block, (ad374.add ((x3_1).toNat * 4)).off + 3, none⟩ = some (.bool ((rd_T147 l0 x3_1).f3))) (ds := []) (bitsA 25 0) (by kernel_rfl) rfl rfl ⟨(cw hw374_0), (cw hw374_1), (cw hw374_2), (cw hw374_3), (cw hw376_0), (cw hw376_1), (cw hw376_2), (cw hw376_3), (cw hw377_0), (cw hw377_1), (cw hw377_2), (cw hw377_3)⟩ (fun hHeld => ?_); refine with_tabW spec_PodsOk.tab6 spec_PodsOk.bits6 (fun HT_ HW_ => ?_)
                   generalize wr.drew = w13 at HB hx374_0 hx374_1 hx374_2 hx374_3 hx376_0 hx376_1 hx376_2 hx376_3 hx377_0 hx377_1 hx377_2 hx377_3 hHeld ⊢
                   refine pu 0 (some 13) (bitsA 25 1) ?_
                   refine pu 1 (some 14) (bitsA 25 3) ?_
                   refine pu 2 (some 15) (bitsA 25 7) ?_
                   refine tk 3 (some 16) (bitsA 25 15) hHeld ?_ (hy := Or.inl ⟨by rfl, by rintro w' ⟨s0, s1, s2, s3, s4, s5, s6, s7, s8, s9, s10, s11⟩; go_simp; with_reducible rfl⟩)
                   refine one_ (i := 4) (N := some 17) (bitsA 25 31) rfl rfl (one_of HT_.out (by kernel_rfl)) (by decide) (fun K hK => ?_)
                   refine goes_ Try.func137 (by kernel_rfl) rfl #[.agg #[.string ((rd_T147 l0 x3_1).f0), .int .i64 ((rd_T147 l0 x3_1).f1), .int .i64 ((rd_T147 l0 x3_1).f2), .bool ((rd_T147 l0 x3_1).f3)]] (by rfl) rfl rfl mt ?_
                   with_reducible refine (spec_PodOk.calls k1 ((rd_T147 l0 x3_1).f0) ((rd_T147 l0 x3_1).f1) ((rd_T147 l0 x3_1).f2) ((rd_T147 l0 x3_1).f3) true _ A5.out).mono ?_
                   rintro e w14 ⟨rfl, hb⟩
                   refine ⟨_, rfl, ?_⟩
                   replace HB := ak (below_step bl hb)
                   (try clear hb)
                   (try clear hb2)
                   (try clear hk)
                   (try clear hi)
                   refine hK.out _ _ ⟨(cw hw374_0), (cw hw374_1), (cw hw374_2), (cw hw374_3), (cw hw376_0), (cw hw376_1), (cw hw376_2), (cw hw376_3), (cw hw377_0), (cw hw377_1), (cw hw377_2), (cw hw377_3)⟩ (fun hHeld => ?_)
                   clear hK K
                   refine nm ?_
                   refine pu 5 (some 18) (bitsA 25 63) ?_
                   refine pu 6 (some 19) (bitsA 25 127) ?_
                   refine pu 7 (some 20) (bitsA 25 255) ?_
                   refine pu 8 (some 21) (bitsA 25 511) ?_
                   refine pu 9 (some 22) (bitsA 25 1023) ?_
                   refine pu 10 (some 23) (bitsA 25 2047) ?_
                   refine pu 11 (some 24) (bitsA 25 4095) ?_
                   refine pu 12 (some 25) (bitsA 25 8191) ?_
                   refine pu 13 (some 26) (bitsA 25 16383) ?_
                   refine pu 14 (some 27) (bitsA 25 32767) ?_
                   refine tk 15 (some 28) (bitsA 25 65535) hHeld ?_ (hy := Or.inl ⟨by rfl, by rintro w' ⟨s0, s1, s2, s3, s4, s5, s6, s7, s8, s9, s10, s11⟩; go_simp; with_reducible rfl⟩)
                   refine pu 16 (some 29) (bitsA 25 131071) ?_
                   refine pu 17 (some 30) (bitsA 25 262143) ?_
                   refine pu 18 (some 31) (bitsA 25 524287) ?_
                   refine pu 19 (some 32) (bitsA 25 1048575) ?_
                   refine tk 20 (some 33) (bitsA 25 2097151) hHeld ?_ (hy := Or.inl ⟨by rfl, by rintro w' ⟨s0, s1, s2, s3, s4, s5, s6, s7, s8, s9, s10, s11⟩; go_simp; with_reducible rfl⟩)
                   refine one_ (i := 21) (N := some 34) (bitsA 25 4194303) rfl rfl (one_of HT_.out (by kernel_rfl)) (by decide) (fun K hK => ?_)
                   refine goes_ Try.func130 (by kernel_rfl) rfl #[.string ((rd_T147 l0 (ji8)).f0), .string ((rd_T147 l0 x3_1).f0)] (by rfl) rfl rfl (by (try simp only [List.map_toArray, List.map_cons, List.map_nil]); first | done | (simp only [hji8]; rfl) | rfl | (simp only [List.length_drop, List.length_take]; rfl)) ?_
                   with_reducible refine (spec_l02Less.calls k1 ((rd_T147 l0 (ji8)).f0) ((rd_T147 l0 x3_1).f0) true _ A11.out).mono ?_
                   rintro e w' ⟨rfl, ⟨nd, rfl⟩⟩
                   refine ⟨_, rfl, ?_⟩
                   refine hK.out _ _ ⟨(cw hw374_0), (cw hw374_1), (cw hw374_2), (cw hw374_3), (cw hw376_0), (cw hw376_1), (cw hw376_2), (cw hw376_3), (cw hw377_0), (cw hw377_1), (cw hw377_2), (cw hw377_3)⟩ (fun hHeld => ?_)
                   clear hK K
                   refine nm ?_
                   refine pu 22 (some 35) (bitsA 25 8388607) ?_
                   refine pu 23 (some 36) (bitsA 25 16777215) ?_
                   refine pu 24 (some 37) (bitsA 25 33554431) ?_
                   refine done_ (done_of HT_.out (by kernel_rfl)) ?_
                   try go_wp2
                   go_roundg k1
                   case measure => have := HK1.out; omega
                   case rel => exact ⟨(wrap64 (x3_1 + 1)), es, H', ⟨kp⟩, ⟨bl⟩⟩
                 · replace c12 := Bool.eq_false_iff.mpr c12
                   subst c12
                   replace H := iF H
                   obtain rfl := Option.some.inj H
                   try go_wp2
                   replace HB := ak (below_drew1 HB.out)
                   have p374 : 0 ≤ (x3_1 : Int) := of_decide_eq_true am
                   have q374 : x3_1 < (l0.length : Int) := of_decide_eq_true am
                   obtain ⟨ad374, e374, hx374_0, hx374_1, hx374_2, hx374_3⟩ := at_T147 HR0.out x3_1 p374 q374
                   have hw374_3 := hx374_3
                   have hw374_2 := hx374_2
                   have hw374_1 := hx374_1
                   have hw374_0 := hx374_0
                   cases e374
                   replace hx374_0 := cw hx374_0
                   replace hx374_1 := cw hx374_1
                   replace hx374_2 := cw hx374_2
                   replace hx374_3 := cw hx374_3
                   replace p374 := eq_true p374
                   replace q374 := eq_true q374
                   have p376 : 0 ≤ ((ji8) : Int) := of_decide_eq_true am
                   have q376 : (ji8) < (l0.length : Int) := of_decide_eq_true am
                   obtain ⟨ad376, e376, hx376_0, hx376_1, hx376_2, hx376_3⟩ := at_T147 HR0.out (ji8) p376 q376
                   have hw376_3 := hx376_3
                   have hw376_2 := hx376_2
                   have hw376_1 := hx376_1
                   have hw376_0 := hx376_0
                   obtain rfl : ad374 = ad376 := (by injection e376)
                   replace hx376_0 := cw hx376_0
                   replace hx376_1 := cw hx376_1
                   replace hx376_2 := cw hx376_2
                   replace hx376_3 := cw hx376_3
                   replace p376 := eq_true p376
                   replace q376 := eq_true q376
                   have p377 : 0 ≤ (x3_1 : Int) := of_decide_eq_true am
                   have q377 : x3_1 < (l0.length : Int) := of_decide_eq_true am
                   obtain ⟨ad377, e377, hx377_0, hx377_1, hx377_2, hx377_3⟩ := at_T147 HR0.out x3_1 p377 q377
                   have hw377_3 := hx377_3
                   have hw377_2 := hx377_2
                   have hw377_1 := hx377_1
                   have hw377_0 := hx377_0
                   obtain rfl : ad374 = ad377 := (by injection e377)
                   replace hx377_0 := cw hx377_0
                   replace hx377_1 := cw hx377_1
                   replace hx377_2 := cw hx377_2
                   replace hx377_3 := cw hx377_3
                   replace p377 := eq_true p377
                   replace q377 := eq_true q377
                   refine start_ (n := 25) (S := fun w' => w'.cell? (ad374.add ((x3_1).toNat * 4)) = some (.string ((rd_T147 l0 x3_1).f0)) ∧ w'.cell? ⟨(ad374.add ((x3_1).toNat * 4)).block, (ad374.add ((x3_1).toNat * 4)).off + 1, none⟩ = some (.int .i64 ((rd_T147 l0 x3_1).f1)) ∧ w'.cell? ⟨(ad374.add ((x3_1).toNat * 4)).block, (ad374.add ((x3_1).toNat * 4)).off + 2, none⟩ = some (.int .i64 ((rd_T147 l0 x3_1).f2)) ∧ w'.cell? ⟨(ad374.add ((x3_1).toNat * 4)).block, (ad374.add ((x3_1).toNat * 4)).off + 3, none⟩ = some (.bool ((rd_T147 l0 x3_1).f3)) ∧ w'.cell? (ad374.add (((ji8)).toNat * 4)) = some (.string ((rd_T147 l0 (ji8)).f0)) ∧ w'.cell? ⟨(ad374.add (((ji8)).toNat * 4)).block, (ad374.add (((ji8)).toNat * 4)).off + 1, none⟩ = some (.int .i64 ((rd_T147 l0 (ji8)).f1)) ∧ w'.cell? ⟨(ad374.add (((ji8)).toNat * 4)).block, (ad374.add (((ji8)).toNat * 4)).off + 2, none⟩ = some (.int .i64 ((rd_T147 l0 (ji8)).f2)) ∧ w'.cell? ⟨(ad374.add (((ji8)).toNat * 4)).block, (ad374.add (((ji8)).toNat * 4)).off + 3, none⟩ = some (.bool ((rd_T147 l0 (ji8)).f3)) ∧ w'.cell? (ad374.add ((x3_1).toNat * 4)) = some (.string ((rd_T147 l0 x3_1).f0)) ∧ w'.cell? ⟨(ad374.add ((x3_1).toNat * 4)).block, (ad374.add ((x3_1).toNat * 4)).off + 1, none⟩ = some (.int .i64 ((rd_T147 l0 x3_1).f1)) ∧ w'.cell? ⟨(ad374.add ((x3_1).toNat * 4)).block, (ad374.add ((x3_1).toNat * 4)).off + 2, none⟩ = some (.int .i64 ((rd_T147 l0 x3_1).f2)) ∧ w'.cell? ⟨(ad374.add ((x3_1).toNat * 4)).block, (ad374.add ((x3_1).toNat * 4)).off + 3, none⟩ = some (.bool ((rd_T147 l0 x3_1).f3))) (ds := []) (bitsA 25 0) (by kernel_rfl) rfl rfl ⟨(cw hw374_0), (cw hw374_1), (cw hw374_2), (cw hw374_3), (cw hw376_0), (cw hw376_1), (cw hw376_2), (cw hw376_3), (cw hw377_0), (cw hw377_1), (cw hw377_2), (cw hw377_3)⟩ (fun hHeld => ?_); refine with_tabW spec_PodsOk.tab6 spec_PodsOk.bits6 (fun HT_ HW_ => ?_)
                   generalize wr.drew = w15 at HB hx374_0 hx374_1 hx374_2 hx374_3 hx376_0 hx376_1 hx376_2 hx376_3 hx377_0 hx377_1 hx377_2 hx377_3 hHeld ⊢
                   refine pu 0 (some 13) (bitsA 25 1) ?_
                   refine pu 1 (some 14) (bitsA 25 3) ?_
                   refine pu 2 (some 15) (bitsA 25 7) ?_
                   refine tk 3 (some 16) (bitsA 25 15) hHeld ?_ (hy := Or.inl ⟨by rfl, by rintro w' ⟨s0, s1, s2, s3, s4, s5, s6, s7, s8, s9, s10, s11⟩; go_simp; with_reducible rfl⟩)
                   refine one_ (i := 4) (N := some 17) (bitsA 25 31) rfl rfl (one_of HT_.out (by kernel_rfl)) (by decide) (fun K hK => ?_)
                   refine goes_ Try.func137 (by kernel_rfl) rfl #[.agg #[.string ((rd_T147 l0 x3_1).f0), .int .i64 ((rd_T147 l0 x3_1).f1), .int .i64 ((rd_T147 l0 x3_1).f2), .bool ((rd_T147 l0 x3_1).f3)]] (by rfl) rfl rfl mt ?_
                   with_reducible refine (spec_PodOk.calls k1 ((rd_T147 l0 x3_1).f0) ((rd_T147 l0 x3_1).f1) ((rd_T147 l0 x3_1).f2) ((rd_T147 l0 x3_1).f3) true _ A5.out).mono ?_
                   rintro e w16 ⟨rfl, hb⟩
                   refine ⟨_, rfl, ?_⟩
                   replace HB := ak (below_step bl hb)
                   (try clear hb)
                   (try clear hb2)
                   (try clear hk)
                   (try clear hi)
                   refine hK.out _ _ ⟨(cw hw374_0), (cw hw374_1), (cw hw374_2), (cw hw374_3), (cw hw376_0), (cw hw376_1), (cw hw376_2), (cw hw376_3), (cw hw377_0), (cw hw377_1), (cw hw377_2), (cw hw377_3)⟩ (fun hHeld => ?_)
                   clear hK K
                   refine nm ?_
                   refine pu 5 (some 18) (bitsA 25 63) ?_
                   refine pu 6 (some 19) (bitsA 25 127) ?_
                   refine pu 7 (some 20) (bitsA 25 255) ?_
                   refine pu 8 (some 21) (bitsA 25 511) ?_
                   refine pu 9 (some 22) (bitsA 25 1023) ?_
                   refine pu 10 (some 23) (bitsA 25 2047) ?_
                   refine pu 11 (some 24) (bitsA 25 4095) ?_
                   refine pu 12 (some 25) (bitsA 25 8191) ?_
                   refine pu 13 (some 26) (bitsA 25 16383) ?_
                   refine pu 14 (some 27) (bitsA 25 32767) ?_
                   refine tk 15 (some 28) (bitsA 25 65535) hHeld ?_ (hy := Or.inl ⟨by rfl, by rintro w' ⟨s0, s1, s2, s3, s4, s5, s6, s7, s8, s9, s10, s11⟩; go_simp; with_reducible rfl⟩)
                   refine pu 16 (some 29) (bitsA 25 131071) ?_
                   refine pu 17 (some 30) (bitsA 25 262143) ?_
                   refine pu 18 (some 31) (bitsA 25 524287) ?_
                   refine pu 19 (some 32) (bitsA 25 1048575) ?_
                   refine tk 20 (some 33) (bitsA 25 2097151) hHeld ?_ (hy := Or.inl ⟨by rfl, by rintro w' ⟨s0, s1, s2, s3, s4, s5, s6, s7, s8, s9, s10, s11⟩; go_simp; with_reducible rfl⟩)
                   refine one_ (i := 21) (N := some 34) (bitsA 25 4194303) rfl rfl (one_of HT_.out (by kernel_rfl)) (by decide) (fun K hK => ?_)
                   refine goes_ Try.func130 (by kernel_rfl) rfl #[.string ((rd_T147 l0 (ji8)).f0), .string ((rd_T147 l0 x3_1).f0)] (by rfl) rfl rfl (by (try simp only [List.map_toArray, List.map_cons, List.map_nil]); first | done | (simp only [hji8]; rfl) | rfl | (simp only [List.length_drop, List.length_take]; rfl)) ?_
                   with_reducible refine (spec_l02Less.calls k1 ((rd_T147 l0 (ji8)).f0) ((rd_T147 l0 x3_1).f0) false _ A11.out).mono ?_
                   rintro e w' ⟨rfl, ⟨nd, rfl⟩⟩
                   refine ⟨_, rfl, ?_⟩
                   refine hK.out _ _ ⟨(cw hw374_0), (cw hw374_1), (cw hw374_2), (cw hw374_3), (cw hw376_0), (cw hw376_1), (cw hw376_2), (cw hw376_3), (cw hw377_0), (cw hw377_1), (cw hw377_2), (cw hw377_3)⟩ (fun hHeld => ?_)
                   clear hK K
                   refine nm ?_
                   refine pu 22 (some 35) (bitsA 25 8388607) ?_
                   refine pu 23 (some 36) (bitsA 25 16777215) ?_
                   refine pu 24 (some 37) (bitsA 25 33554431) ?_
                   refine done_ (done_of HT_.out (by kernel_rfl)) ?_
                   try go_wp2
                   go_ret
                   exact ⟨by first | rfl | (simp [errW_none, errW_some] <;> rfl) | (simp only [← hji8]; first | rfl | (simp [errW_none, errW_some] <;> rfl)) | (simp [*, errW_none, errW_some] <;> rfl), bl⟩
               · rw [if_neg c10] at H
                 exact absurd H (by simp)
             · rw [if_neg c9] at H
               exact absurd H (by simp)
           · rw [if_neg c7] at H
             have c7b0 : decide (0 < x3_1) = false := decide_eq_false c7
             clear c7
             have H' := Aside0.mk H
             clear H
             try go_wp2
             replace HB := ak (below_drew1 HB.out)
             have p374 : 0 ≤ (x3_1 : Int) := of_decide_eq_true am
             have q374 : x3_1 < (l0.length : Int) := of_decide_eq_true am
             obtain ⟨ad374, e374, hx374_0, hx374_1, hx374_2, hx374_3⟩ := at_T147 HR0.out x3_1 p374 q374
             have hw374_3 := hx374_3
             have hw374_2 := hx374_2
             have hw374_1 := hx374_1
             have hw374_0 := hx374_0
             cases e374
             replace hx374_0 := cw hx374_0
             replace hx374_1 := cw hx374_1
             replace hx374_2 := cw hx374_2
             replace hx374_3 := cw hx374_3
             replace p374 := eq_true p374
             replace q374 := eq_true q374
             refine start_ (n := 25) (S := fun w' => w'.cell? (ad374.add ((x3_1).toNat * 4)) = some (.string ((rd_T147 l0 x3_1).f0)) ∧ w'.cell? ⟨(ad374.add ((x3_1).toNat * 4)).block, (ad374.add ((x3_1).toNat * 4)).off + 1, none⟩ = some (.int .i64 ((rd_T147 l0 x3_1).f1)) ∧ w'.cell? ⟨(ad374.add ((x3_1).toNat * 4)).block, (ad374.add ((x3_1).toNat * 4)).off + 2, none⟩ = some (.int .i64 ((rd_T147 l0 x3_1).f2)) ∧ w'.cell? ⟨(ad374.add ((x3_1).toNat * 4)).block, (ad374.add ((x3_1).toNat * 4)).off + 3, none⟩ = some (.bool ((rd_T147 l0 x3_1).f3))) (ds := []) (bitsA 25 0) (by kernel_rfl) rfl rfl ⟨(cw hw374_0), (cw hw374_1), (cw hw374_2), (cw hw374_3)⟩ (fun hHeld => ?_); refine with_tabW spec_PodsOk.tab6 spec_PodsOk.bits6 (fun HT_ HW_ => ?_)
             generalize wr.drew = w17 at HB hx374_0 hx374_1 hx374_2 hx374_3 hHeld ⊢
             refine pu 0 (some 13) (bitsA 25 1) ?_
             refine pu 1 (some 14) (bitsA 25 3) ?_
             refine pu 2 (some 15) (bitsA 25 7) ?_
             refine tk 3 (some 16) (bitsA 25 15) hHeld ?_ (hy := Or.inl ⟨by rfl, by rintro w' ⟨s0, s1, s2, s3⟩; go_simp; with_reducible rfl⟩)
             refine one_ (i := 4) (N := some 17) (bitsA 25 31) rfl rfl (one_of HT_.out (by kernel_rfl)) (by decide) (fun K hK => ?_)
             refine goes_ Try.func137 (by kernel_rfl) rfl #[.agg #[.string ((rd_T147 l0 x3_1).f0), .int .i64 ((rd_T147 l0 x3_1).f1), .int .i64 ((rd_T147 l0 x3_1).f2), .bool ((rd_T147 l0 x3_1).f3)]] (by rfl) rfl rfl mt ?_
             with_reducible refine (spec_PodOk.calls k1 ((rd_T147 l0 x3_1).f0) ((rd_T147 l0 x3_1).f1) ((rd_T147 l0 x3_1).f2) ((rd_T147 l0 x3_1).f3) true _ A5.out).mono ?_
             rintro e w18 ⟨rfl, hb⟩
             refine ⟨_, rfl, ?_⟩
             replace HB := ak (below_step bl hb)
             (try clear hb)
             (try clear hb2)
             (try clear hk)
             (try clear hi)
             refine hK.out _ _ ⟨(cw hw374_0), (cw hw374_1), (cw hw374_2), (cw hw374_3)⟩ (fun hHeld => ?_)
             clear hK K
             refine nm ?_
             refine pu 5 (some 18) (bitsA 25 63) ?_
             refine pu 6 (some 19) (bitsA 25 127) ?_
             refine pu 7 (some 20) (bitsA 25 255) ?_
             refine pu 8 (some 21) (bitsA 25 511) ?_
             refine pu 9 (some 22) (bitsA 25 1023) ?_
             refine pure_ (i := 10) (N := some 23) (v := undef) (a' := ?_) (bitsA 25 2047) rfl rfl (any_of HT_.out (by kernel_rfl)) (fun _ _ _ h => h) (Or.inr ⟨by rfl, rfl⟩) ?_ ?_; rotate_left; (· (simp only [Act.put, List.setIfInBounds_toArray, List.set_cons_zero, List.set_cons_succ, i64_w, i32_w]; rfl))
             refine pure_ (i := 11) (N := some 24) (v := undef) (a' := ?_) (bitsA 25 4095) rfl rfl (any_of HT_.out (by kernel_rfl)) (fun _ _ _ h => h) (Or.inr ⟨by rfl, rfl⟩) ?_ ?_; rotate_left; (· (simp only [Act.put, List.setIfInBounds_toArray, List.set_cons_zero, List.set_cons_succ, i64_w, i32_w]; rfl))
             refine pure_ (i := 12) (N := some 25) (v := undef) (a' := ?_) (bitsA 25 8191) rfl rfl (any_of HT_.out (by kernel_rfl)) (fun _ _ _ h => h) (Or.inr ⟨by rfl, rfl⟩) ?_ ?_; rotate_left; (· (simp only [Act.put, List.setIfInBounds_toArray, List.set_cons_zero, List.set_cons_succ, i64_w, i32_w]; rfl))
             refine pure_ (i := 13) (N := some 26) (v := undef) (a' := ?_) (bitsA 25 16383) rfl rfl (any_of HT_.out (by kernel_rfl)) (fun _ _ _ h => h) (Or.inr ⟨by rfl, rfl⟩) ?_ ?_; rotate_left; (· (simp only [Act.put, List.setIfInBounds_toArray, List.set_cons_zero, List.set_cons_succ, i64_w, i32_w]; rfl))
             refine pure_ (i := 14) (N := some 27) (v := undef) (a' := ?_) (bitsA 25 32767) rfl rfl (any_of HT_.out (by kernel_rfl)) (fun _ _ _ h => h) (Or.inr ⟨by rfl, rfl⟩) ?_ ?_; rotate_left; (· (simp only [Act.put, List.setIfInBounds_toArray, List.set_cons_zero, List.set_cons_succ, i64_w, i32_w]; rfl))
             refine pure_ (i := 15) (N := some 28) (v := undef) (a' := ?_) (bitsA 25 65535) rfl rfl (any_of HT_.out (by kernel_rfl)) (fun _ _ _ h => h) (Or.inr ⟨by rfl, rfl⟩) ?_ ?_; rotate_left; (· (simp only [Act.put, List.setIfInBounds_toArray, List.set_cons_zero, List.set_cons_succ, i64_w, i32_w]; rfl))
             refine pure_ (i := 16) (N := some 29) (v := undef) (a' := ?_) (bitsA 25 131071) rfl rfl (any_of HT_.out (by kernel_rfl)) (fun _ _ _ h => h) (Or.inr ⟨by rfl, rfl⟩) ?_ ?_; rotate_left; (· (simp only [Act.put, List.setIfInBounds_toArray, List.set_cons_zero, List.set_cons_succ, i64_w, i32_w]; rfl))
             refine pure_ (i := 17) (N := some 30) (v := undef) (a' := ?_) (bitsA 25 262143) rfl rfl (any_of HT_.out (by kernel_rfl)) (fun _ _ _ h => h) (Or.inr ⟨by rfl, rfl⟩) ?_ ?_; rotate_left; (· (simp only [Act.put, List.setIfInBounds_toArray, List.set_cons_zero, List.set_cons_succ, i64_w, i32_w]; rfl))
             refine pure_ (i := 18) (N := some 31) (v := undef) (a' := ?_) (bitsA 25 524287) rfl rfl (any_of HT_.out (by kernel_rfl)) (fun _ _ _ h => h) (Or.inr ⟨by rfl, rfl⟩) ?_ ?_; rotate_left; (· (simp only [Act.put, List.setIfInBounds_toArray, List.set_cons_zero, List.set_cons_succ, i64_w, i32_w]; rfl))
             refine pure_ (i := 19) (N := some 32) (v := undef) (a' := ?_) (bitsA 25 1048575) rfl rfl (any_of HT_.out (by kernel_rfl)) (fun _ _ _ h => h) (Or.inr ⟨by rfl, rfl⟩) ?_ ?_; rotate_left; (· (simp only [Act.put, List.setIfInBounds_toArray, List.set_cons_zero, List.set_cons_succ, i64_w, i32_w]; rfl))
             refine pure_ (i := 20) (N := some 33) (v := undef) (a' := ?_) (bitsA 25 2097151) rfl rfl (any_of HT_.out (by kernel_rfl)) (fun _ _ _ h => h) (Or.inr ⟨by rfl, rfl⟩) ?_ ?_; rotate_left; (· (simp only [Act.put, List.setIfInBounds_toArray, List.set_cons_zero, List.set_cons_succ, i64_w, i32_w]; rfl))
             refine pure_ (i := 21) (N := some 34) (v := undef) (a' := ?_) (bitsA 25 4194303) rfl rfl (any_of HT_.out (by kernel_rfl)) (fun _ _ _ h => h) (Or.inr ⟨by rfl, rfl⟩) ?_ ?_; rotate_left; (· (simp only [Act.put, List.setIfInBounds_toArray, List.set_cons_zero, List.set_cons_succ, i64_w, i32_w]; rfl))
             refine pure_ (i := 22) (N := some 35) (v := undef) (a' := ?_) (bitsA 25 8388607) rfl rfl (any_of HT_.out (by kernel_rfl)) (fun _ _ _ h => h) (Or.inr ⟨by rfl, rfl⟩) ?_ ?_; rotate_left; (· (simp only [Act.put, List.setIfInBounds_toArray, List.set_cons_zero, List.set_cons_succ, i64_w, i32_w]; rfl))
             refine pu 23 (some 36) (bitsA 25 16777215) ?_
             refine pu 24 (some 37) (bitsA 25 33554431) ?_
             refine done_ (done_of HT_.out (by kernel_rfl)) ?_
             try go_wp2
             go_roundg k1
             case measure => have := HK1.out; omega
             case rel => exact ⟨(wrap64 (x3_1 + 1)), es, H', ⟨kp⟩, ⟨bl⟩⟩
         · replace c6 := Bool.eq_false_iff.mpr c6
           subst c6
           replace H := iF H
           obtain rfl := Option.some.inj H
           try go_wp2
           replace HB := ak (below_drew1 HB.out)
           have p374 : 0 ≤ (x3_1 : Int) := of_decide_eq_true am
           have q374 : x3_1 < (l0.length : Int) := of_decide_eq_true am
           obtain ⟨ad374, e374, hx374_0, hx374_1, hx374_2, hx374_3⟩ := at_T147 HR0.out x3_1 p374 q374
           have hw374_3 := hx374_3
           have hw374_2 := hx374_2
           have hw374_1 := hx374_1
           have hw374_0 := hx374_0
           cases e374
           replace hx374_0 := cw hx374_0
           replace hx374_1 := cw hx374_1
           replace hx374_2 := cw hx374_2
           replace hx374_3 := cw hx374_3
           replace p374 := eq_true p374
           replace q374 := eq_true q374
           refine start_ (n := 25) (S := fun w' => w'.cell? (ad374.add ((x3_1).toNat * 4)) = some (.string ((rd_T147 l0 x3_1).f0)) ∧ w'.cell? ⟨(ad374.add ((x3_1).toNat * 4)).block, (ad374.add ((x3_1).toNat * 4)).off + 1, none⟩ = some (.int .i64 ((rd_T147 l0 x3_1).f1)) ∧ w'.cell? ⟨(ad374.add ((x3_1).toNat * 4)).block, (ad374.add ((x3_1).toNat * 4)).off + 2, none⟩ = some (.int .i64 ((rd_T147 l0 x3_1).f2)) ∧ w'.cell? ⟨(ad374.add ((x3_1).toNat * 4)).block, (ad374.add ((x3_1).toNat * 4)).off + 3, none⟩ = some (.bool ((rd_T147 l0 x3_1).f3))) (ds := []) (bitsA 25 0) (by kernel_rfl) rfl rfl ⟨(cw hw374_0), (cw hw374_1), (cw hw374_2), (cw hw374_3)⟩ (fun hHeld => ?_); refine with_tabW spec_PodsOk.tab6 spec_PodsOk.bits6 (fun HT_ HW_ => ?_)
           generalize wr.drew = w19 at HB hx374_0 hx374_1 hx374_2 hx374_3 hHeld ⊢
           refine pu 0 (some 13) (bitsA 25 1) ?_
           refine pu 1 (some 14) (bitsA 25 3) ?_
           refine pu 2 (some 15) (bitsA 25 7) ?_
           refine tk 3 (some 16) (bitsA 25 15) hHeld ?_ (hy := Or.inl ⟨by rfl, by rintro w' ⟨s0, s1, s2, s3⟩; go_simp; with_reducible rfl⟩)
           refine one_ (i := 4) (N := some 17) (bitsA 25 31) rfl rfl (one_of HT_.out (by kernel_rfl)) (by decide) (fun K hK => ?_)
           refine goes_ Try.func137 (by kernel_rfl) rfl #[.agg #[.string ((rd_T147 l0 x3_1).f0), .int .i64 ((rd_T147 l0 x3_1).f1), .int .i64 ((rd_T147 l0 x3_1).f2), .bool ((rd_T147 l0 x3_1).f3)]] (by rfl) rfl rfl mt ?_
           with_reducible refine (spec_PodOk.calls k1 ((rd_T147 l0 x3_1).f0) ((rd_T147 l0 x3_1).f1) ((rd_T147 l0 x3_1).f2) ((rd_T147 l0 x3_1).f3) false _ A5.out).mono ?_
           rintro e w20 ⟨rfl, hb⟩
           refine ⟨_, rfl, ?_⟩
           replace HB := ak (below_step bl hb)
           (try clear hb)
           (try clear hb2)
           (try clear hk)
           (try clear hi)
           refine hK.out _ _ ⟨(cw hw374_0), (cw hw374_1), (cw hw374_2), (cw hw374_3)⟩ (fun hHeld => ?_)
           clear hK K
           refine nm ?_
           refine pu 5 (some 18) (bitsA 25 63) ?_
           refine pu 6 (some 19) (bitsA 25 127) ?_
           refine pure_ (i := 7) (N := some 20) (v := undef) (a' := ?_) (bitsA 25 255) rfl rfl (any_of HT_.out (by kernel_rfl)) (fun _ _ _ h => h) (Or.inr ⟨by rfl, rfl⟩) ?_ ?_; rotate_left; (· (simp only [Act.put, List.setIfInBounds_toArray, List.set_cons_zero, List.set_cons_succ, i64_w, i32_w]; rfl))
           refine pure_ (i := 8) (N := some 21) (v := undef) (a' := ?_) (bitsA 25 511) rfl rfl (any_of HT_.out (by kernel_rfl)) (fun _ _ _ h => h) (Or.inr ⟨by rfl, rfl⟩) ?_ ?_; rotate_left; (· (simp only [Act.put, List.setIfInBounds_toArray, List.set_cons_zero, List.set_cons_succ, i64_w, i32_w]; rfl))
           refine pure_ (i := 9) (N := some 22) (v := undef) (a' := ?_) (bitsA 25 1023) rfl rfl (any_of HT_.out (by kernel_rfl)) (fun _ _ _ h => h) (Or.inr ⟨by rfl, rfl⟩) ?_ ?_; rotate_left; (· (simp only [Act.put, List.setIfInBounds_toArray, List.set_cons_zero, List.set_cons_succ, i64_w, i32_w]; rfl))
           refine pure_ (i := 10) (N := some 23) (v := undef) (a' := ?_) (bitsA 25 2047) rfl rfl (any_of HT_.out (by kernel_rfl)) (fun _ _ _ h => h) (Or.inr ⟨by rfl, rfl⟩) ?_ ?_; rotate_left; (· (simp only [Act.put, List.setIfInBounds_toArray, List.set_cons_zero, List.set_cons_succ, i64_w, i32_w]; rfl))
           refine pure_ (i := 11) (N := some 24) (v := undef) (a' := ?_) (bitsA 25 4095) rfl rfl (any_of HT_.out (by kernel_rfl)) (fun _ _ _ h => h) (Or.inr ⟨by rfl, rfl⟩) ?_ ?_; rotate_left; (· (simp only [Act.put, List.setIfInBounds_toArray, List.set_cons_zero, List.set_cons_succ, i64_w, i32_w]; rfl))
           refine pure_ (i := 12) (N := some 25) (v := undef) (a' := ?_) (bitsA 25 8191) rfl rfl (any_of HT_.out (by kernel_rfl)) (fun _ _ _ h => h) (Or.inr ⟨by rfl, rfl⟩) ?_ ?_; rotate_left; (· (simp only [Act.put, List.setIfInBounds_toArray, List.set_cons_zero, List.set_cons_succ, i64_w, i32_w]; rfl))
           refine pure_ (i := 13) (N := some 26) (v := undef) (a' := ?_) (bitsA 25 16383) rfl rfl (any_of HT_.out (by kernel_rfl)) (fun _ _ _ h => h) (Or.inr ⟨by rfl, rfl⟩) ?_ ?_; rotate_left; (· (simp only [Act.put, List.setIfInBounds_toArray, List.set_cons_zero, List.set_cons_succ, i64_w, i32_w]; rfl))
           refine pure_ (i := 14) (N := some 27) (v := undef) (a' := ?_) (bitsA 25 32767) rfl rfl (any_of HT_.out (by kernel_rfl)) (fun _ _ _ h => h) (Or.inr ⟨by rfl, rfl⟩) ?_ ?_; rotate_left; (· (simp only [Act.put, List.setIfInBounds_toArray, List.set_cons_zero, List.set_cons_succ, i64_w, i32_w]; rfl))
           refine pure_ (i := 15) (N := some 28) (v := undef) (a' := ?_) (bitsA 25 65535) rfl rfl (any_of HT_.out (by kernel_rfl)) (fun _ _ _ h => h) (Or.inr ⟨by rfl, rfl⟩) ?_ ?_; rotate_left; (· (simp only [Act.put, List.setIfInBounds_toArray, List.set_cons_zero, List.set_cons_succ, i64_w, i32_w]; rfl))
           refine pure_ (i := 16) (N := some 29) (v := undef) (a' := ?_) (bitsA 25 131071) rfl rfl (any_of HT_.out (by kernel_rfl)) (fun _ _ _ h => h) (Or.inr ⟨by rfl, rfl⟩) ?_ ?_; rotate_left; (· (simp only [Act.put, List.setIfInBounds_toArray, List.set_cons_zero, List.set_cons_succ, i64_w, i32_w]; rfl))
           refine pure_ (i := 17) (N := some 30) (v := undef) (a' := ?_) (bitsA 25 262143) rfl rfl (any_of HT_.out (by kernel_rfl)) (fun _ _ _ h => h) (Or.inr ⟨by rfl, rfl⟩) ?_ ?_; rotate_left; (· (simp only [Act.put, List.setIfInBounds_toArray, List.set_cons_zero, List.set_cons_succ, i64_w, i32_w]; rfl))
           refine pure_ (i := 18) (N := some 31) (v := undef) (a' := ?_) (bitsA 25 524287) rfl rfl (any_of HT_.out (by kernel_rfl)) (fun _ _ _ h => h) (Or.inr ⟨by rfl, rfl⟩) ?_ ?_; rotate_left; (· (simp only [Act.put, List.setIfInBounds_toArray, List.set_cons_zero, List.set_cons_succ, i64_w, i32_w]; rfl))
           refine pure_ (i := 19) (N := some 32) (v := undef) (a' := ?_) (bitsA 25 1048575) rfl rfl (any_of HT_.out (by kernel_rfl)) (fun _ _ _ h => h) (Or.inr ⟨by rfl, rfl⟩) ?_ ?_; rotate_left; (· (simp only [Act.put, List.setIfInBounds_toArray, List.set_cons_zero, List.set_cons_succ, i64_w, i32_w]; rfl))
           refine pure_ (i := 20) (N := some 33) (v := undef) (a' := ?_) (bitsA 25 2097151) rfl rfl (any_of HT_.out (by kernel_rfl)) (fun _ _ _ h => h) (Or.inr ⟨by rfl, rfl⟩) ?_ ?_; rotate_left; (· (simp only [Act.put, List.setIfInBounds_toArray, List.set_cons_zero, List.set_cons_succ, i64_w, i32_w]; rfl))
           refine pure_ (i := 21) (N := some 34) (v := undef) (a' := ?_) (bitsA 25 4194303) rfl rfl (any_of HT_.out (by kernel_rfl)) (fun _ _ _ h => h) (Or.inr ⟨by rfl, rfl⟩) ?_ ?_; rotate_left; (· (simp only [Act.put, List.setIfInBounds_toArray, List.set_cons_zero, List.set_cons_succ, i64_w, i32_w]; rfl))
           refine pure_ (i := 22) (N := some 35) (v := undef) (a' := ?_) (bitsA 25 8388607) rfl rfl (any_of HT_.out (by kernel_rfl)) (fun _ _ _ h => h) (Or.inr ⟨by rfl, rfl⟩) ?_ ?_; rotate_left; (· (simp only [Act.put, List.setIfInBounds_toArray, List.set_cons_zero, List.set_cons_succ, i64_w, i32_w]; rfl))
           refine pure_ (i := 23) (N := some 36) (v := undef) (a' := ?_) (bitsA 25 16777215) rfl rfl (any_of HT_.out (by kernel_rfl)) (fun _ _ _ h => h) (Or.inr ⟨by rfl, rfl⟩) ?_ ?_; rotate_left; (· (simp only [Act.put, List.setIfInBounds_toArray, List.set_cons_zero, List.set_cons_succ, i64_w, i32_w]; rfl))
           refine pu 24 (some 37) (bitsA 25 33554431) ?_
           refine done_ (done_of HT_.out (by kernel_rfl)) ?_
           try go_wp2
           go_ret
           exact ⟨ew, bl⟩
       · rw [if_neg c4] at H
         exact absurd H (by simp)
     · rw [if_neg c3] at H
       have c3b0 : decide (x3_1 < (l0.length : Int)) = false := decide_eq_false c3
       clear c3
       obtain rfl := Option.some.inj H
       go_wp2
       go_ret
       exact ⟨ew, bl⟩

end Go.Proofs.Ytplekidnlofioaa.Q
namespace Go.Proofs.Ytplekidnlofioaa.Q
open Go.RowKit Go.Proofs.YtplekidnlofioaaW.PrintWords Go.Proofs.YtplekidnlofioaaW.PrintLast Go.Proofs.YtplekidnlofioaaW.PrintMore
attribute [local go_sem] max2_int min2_int max_two min_two max_three min_three max_four min_four   -- for this text's walks alone
set_option linter.unusedVariables false
set_option linter.unusedSimpArgs false

/-! ### spec_RulesOk: function 138 -/
def spec_RulesOk.f (a0_0 : Int) (a0_1 : Int) (a0_2 : Int) : Option (Bool) := (spec_l01In.f a0_0 0 1000).bind fun t394 => (if t394 = true then ((spec_l01In.f a0_1 0 1000).bind fun t395 => (if t395 = true then ((spec_l01In.f a0_2 0 1000).bind fun t396 => (some t396)) else (some false))) else (some false))
set_option maxHeartbeats 8000000 in
set_option maxRecDepth 100000 in
theorem spec_RulesOk.calls (a0_0 : Int) (a0_1 : Int) (a0_2 : Int) (r : Bool) (w : World) (h : spec_RulesOk.f a0_0 a0_1 a0_2 = some r) :
 Calls Try.prog 138 #[.agg #[.int .i64 a0_0, .int .i64 a0_1, .int .i64 a0_2]] w fun e w' => e = .returned (.bool r) ∧ Below w.heap.size w w' := by
 have hu61 := Try.underlying61
 have HB := Aside0.mk (Below.refl w.heap.size w)
 have H : ((spec_l01In.f a0_0 0 1000).bind fun t394 => (if t394 = true then ((spec_l01In.f a0_1 0 1000).bind fun t395 => (if t395 = true then ((spec_l01In.f a0_2 0 1000).bind fun t396 => (some t396)) else (some false))) else (some false))) = some r := h
 clear h
 obtain ⟨t394, A20, H⟩ := bo H
 have A2 := Aside0.mk A20
 clear A20
 by_cases c3 : t394 = true
 · subst c3
   replace H := iT H
   obtain ⟨t395, A40, H⟩ := bo H
   have A4 := Aside0.mk A40
   clear A40
   by_cases c5 : t395 = true
   · subst c5
     replace H := iT H
     obtain ⟨t396, A60, H⟩ := bo H
     have A6 := Aside0.mk A60
     clear A60
     obtain rfl := Option.some.inj H
     go_enter Try.func138, Try.ntmps138
     go_wp2_with (first | ((with_reducible refine gate_dst (N := 1) rfl ?_); refine bx 1 #[.int .i64 a0_0, .int .i64 a0_1, .int .i64 a0_2] 61 ?_; intro gb393 hg w7 hbox hb; have BK393 := ak hbox; have GW393 := gs hg bl; have GE393 := gs hg bl; replace HB := ak (below_step bl hb); clear hb hbox hg; obtain ⟨hcz8_0, hcz8_1, hcz8_2, hfz8_0, hfz8_1, hfz8_2⟩ := cz3 BK393) | ((with_reducible refine gate_callee (f := 69) rfl ?_); refine gl (some 5) Try.func69 #[.int .i64 a0_0, .int .i64 0, .int .i64 1000] ?_; (with_reducible refine (spec_l01In.calls a0_0 0 1000 true _ A2.out).mono ?_); rintro e w' ⟨rfl, ⟨nd, rfl⟩⟩; refine ⟨_, rfl, ?_⟩) | (go_at_call 69; (with_reducible refine (spec_l01In.calls a0_1 0 1000 true _ A4.out).mono ?_); rintro e w' ⟨rfl, ⟨nd, rfl⟩⟩) | (go_at_call 69; (with_reducible refine (spec_l01In.calls a0_2 0 1000 t396 _ A6.out).mono ?_); rintro e w' ⟨rfl, ⟨nd, rfl⟩⟩))
     go_ret
     exact ⟨ew, bl1 GE393⟩
   · replace c5 := Bool.eq_false_iff.mpr c5
     subst c5
     replace H := iF H
     obtain rfl := Option.some.inj H
     go_enter Try.func138, Try.ntmps138
     go_wp2_with (first | ((with_reducible refine gate_dst (N := 1) rfl ?_); refine bx 1 #[.int .i64 a0_0, .int .i64 a0_1, .int .i64 a0_2] 61 ?_; intro gb393 hg w9 hbox hb; have BK393 := ak hbox; have GW393 := gs hg bl; have GE393 := gs hg bl; replace HB := ak (below_step bl hb); clear hb hbox hg; obtain ⟨hcz10_0, hcz10_1, hcz10_2, hfz10_0, hfz10_1, hfz10_2⟩ := cz3 BK393) | ((with_reducible refine gate_callee (f := 69) rfl ?_); refine gl (some 5) Try.func69 #[.int .i64 a0_0, .int .i64 0, .int .i64 1000] ?_; (with_reducible refine (spec_l01In.calls a0_0 0 1000 true _ A2.out).mono ?_); rintro e w' ⟨rfl, ⟨nd, rfl⟩⟩; refine ⟨_, rfl, ?_⟩) | (go_at_call 69; (with_reducible refine (spec_l01In.calls a0_1 0 1000 false _ A4.out).mono ?_); rintro e w' ⟨rfl, ⟨nd, rfl⟩⟩))
     go_ret
     exact ⟨ew, bl1 GE393⟩
 · replace c3 := Bool.eq_false_iff.mpr c3
   subst c3
   replace H := iF H
   obtain rfl := Option.some.inj H
   go_enter Try.func138, Try.ntmps138
   go_wp2_with (first | ((with_reducible refine gate_dst (N := 1) rfl ?_); refine bx 1 #[.int .i64 a0_0, .int .i64 a0_1, .int .i64 a0_2] 61 ?_; intro gb393 hg w11 hbox hb; have BK393 := ak hbox; have GW393 := gs hg bl; have GE393 := gs hg bl; replace HB := ak (below_step bl hb); clear hb hbox hg; obtain ⟨hcz12_0, hcz12_1, hcz12_2, hfz12_0, hfz12_1, hfz12_2⟩ := cz3 BK393) | ((with_reducible refine gate_callee (f := 69) rfl ?_); refine gl (some 5) Try.func69 #[.int .i64 a0_0, .int .i64 0, .int .i64 1000] ?_; (with_reducible refine (spec_l01In.calls a0_0 0 1000 false _ A2.out).mono ?_); rintro e w' ⟨rfl, ⟨nd, rfl⟩⟩; refine ⟨_, rfl, ?_⟩))
   go_ret
   exact ⟨ew, bl1 GE393⟩

end Go.Proofs.Ytplekidnlofioaa.Q
