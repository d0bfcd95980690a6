/- Part 6 of the proof of FnExactTallyOf: contracts of the functions that it reaches, printed and by hand, and what they come to in plain Lean. -/
import Derived.Test.YtplekidnlofioaaAFnExactTallyOf2
import Derived.Test.YtplekidnlofioaaAFnExactTallyOf4
import Derived.Test.YtplekidnlofioaaAFnExactTallyOf5
import Derived.Lib.Strings
import Derived.Test.YtplekidnlofioaaAFnExactTallyOf3
namespace Go.Proofs.Ytplekidnlofioaa.Q
open Go.RowKit Go.Proofs.YtplekidnlofioaaW.PrintWords Go.Proofs.YtplekidnlofioaaW.PrintLast Go.Proofs.YtplekidnlofioaaW.PrintMore
attribute [local go_sem] max2_int min2_int max_two min_two max_three min_three max_four min_four   -- for this text's walks alone
set_option linter.unusedVariables false
set_option linter.unusedSimpArgs false

/-! ### laws_FnExactTallyOf: function 9 -/
def laws_FnExactTallyOf.j0 : Nat → List (S144) → List (S137) → List (S147) → List (S81) → Bool → Option (Bool)
 | 0, _, _, _, _, _ => none
 | k + 1, x0, x1, x14, x15, x65 => if x65 = true then (some false) else ((laws_toPodS.f k x0).bind fun t932 => ((laws_eqPodS.f k x14 t932).bind fun t935 => (if t935 = true then ((laws_toSeriesS.f k x1).bind fun t936 => ((laws_eqSeriesS.f k x15 t936).bind fun t939 => (if t939 = true then (some true) else (some false)))) else (some false))))
def laws_FnExactTallyOf.f (k : Nat) (l0 : List (S144)) (l1 : List (S137)) (a2 : ByteArray) (a3 : Int) (a4_0 : Int) (a4_1 : Int) (a4_2 : Int) : Option (Bool) := if (a2.size : Int) > 1048576 then (some true) else ((laws_szPodS.f k l0 1048576).bind fun t899 => (if t899 < 0 then (some true) else ((laws_szSeriesS.f k l1 t899).bind fun t900 => (if t900 < 0 then (some true) else ((laws_toPodS.f k l0).bind fun t901 => ((laws_toSeriesS.f k l1).bind fun t904 => ((laws_toRules.f a4_0 a4_1 a4_2).bind fun bt907 => ((spec_TallyOf.f k t901 t904 a2 a3 bt907.1 bt907.2.1 bt907.2.2).bind fun bt910 => ((laws_toPodS.f k l0).bind fun t916 => ((laws_toSeriesS.f k l1).bind fun t919 => ((laws_toRules.f a4_0 a4_1 a4_2).bind fun bt922 => ((impl_TallyOf.f k t916 t919 a2 a3 bt922.1 bt922.2.1 bt922.2.2).bind fun bt925 => ((laws_eqTally.f bt925.1 bt925.2.1 bt925.2.2.1 bt925.2.2.2.1 bt910.1 bt910.2.1 bt910.2.2.1 bt910.2.2.2.1).bind fun t931 => (if t931 = true then (laws_FnExactTallyOf.j0 k l0 l1 t916 t919 (bt925.2.2.2.2 != bt910.2.2.2.2)) else (laws_FnExactTallyOf.j0 k l0 l1 t916 t919 true)))))))))))))))
theorem laws_FnExactTallyOf.mono_l : ∀ k, (∀ y0 y1 y2 y3 y4, LeO (laws_FnExactTallyOf.j0 k y0 y1 y2 y3 y4) (laws_FnExactTallyOf.j0 (k + 1) y0 y1 y2 y3 y4))
 | 0 => fun _ _ _ _ _ r h => by simp [laws_FnExactTallyOf.j0] at h
 | k + 1 => by
  have ih0 := laws_FnExactTallyOf.mono_l k
  · intro y0 y1 y2 y3 y4
    unfold laws_FnExactTallyOf.j0
    repeat' first
    | (with_reducible exact ih0 _ _ _ _ _)
    | (with_reducible exact impl_TallyOf.mono _ _ _ _ _ _ _ _)
    | (with_reducible exact laws_eqPodS.mono _ _ _)
    | (with_reducible exact laws_eqSeriesS.mono _ _ _)
    | (with_reducible exact laws_szPodS.mono _ _ _)
    | (with_reducible exact laws_szSeriesS.mono _ _ _)
    | (with_reducible exact laws_toPodS.mono _ _)
    | (with_reducible exact laws_toSeriesS.mono _ _)
    | (with_reducible exact spec_TallyOf.mono _ _ _ _ _ _ _ _)
    | (with_reducible exact LeO.refl _)
    | (with_reducible exact LeO.none _)
    | (with_reducible refine LeO.ite ?_ ?_)
    | (with_reducible refine LeO.bind ?_ (fun _ => ?_))
    | exact ih0 _ _ _ _ _
    | exact impl_TallyOf.mono _ _ _ _ _ _ _ _
    | exact laws_eqPodS.mono _ _ _
    | exact laws_eqSeriesS.mono _ _ _
    | exact laws_szPodS.mono _ _ _
    | exact laws_szSeriesS.mono _ _ _
    | exact laws_toPodS.mono _ _
    | exact laws_toSeriesS.mono _ _
    | exact spec_TallyOf.mono _ _ _ _ _ _ _ _
    | exact LeO.none _
    | refine LeO.ite ?_ ?_
    | refine LeO.bind ?_ (fun _ => ?_)
theorem laws_FnExactTallyOf.mono : ∀ a0 a1 a2 a3 a4 a5 a6 k, LeO (laws_FnExactTallyOf.f k a0 a1 a2 a3 a4 a5 a6) (laws_FnExactTallyOf.f (k + 1) a0 a1 a2 a3 a4 a5 a6) := by
 intro a0 a1 a2 a3 a4 a5 a6 k
 have ih0 := laws_FnExactTallyOf.mono_l k
 unfold laws_FnExactTallyOf.f
 repeat' first
  | (with_reducible exact ih0 _ _ _ _ _)
  | (with_reducible exact impl_TallyOf.mono _ _ _ _ _ _ _ _)
  | (with_reducible exact laws_eqPodS.mono _ _ _)
  | (with_reducible exact laws_eqSeriesS.mono _ _ _)
  | (with_reducible exact laws_szPodS.mono _ _ _)
  | (with_reducible exact laws_szSeriesS.mono _ _ _)
  | (with_reducible exact laws_toPodS.mono _ _)
  | (with_reducible exact laws_toSeriesS.mono _ _)
  | (with_reducible exact spec_TallyOf.mono _ _ _ _ _ _ _ _)
  | (with_reducible exact LeO.refl _)
  | (with_reducible exact LeO.none _)
  | (with_reducible refine LeO.ite ?_ ?_)
  | (with_reducible refine LeO.bind ?_ (fun _ => ?_))
  | exact ih0 _ _ _ _ _
  | exact impl_TallyOf.mono _ _ _ _ _ _ _ _
  | exact laws_eqPodS.mono _ _ _
  | exact laws_eqSeriesS.mono _ _ _
  | exact laws_szPodS.mono _ _ _
  | exact laws_szSeriesS.mono _ _ _
  | exact laws_toPodS.mono _ _
  | exact laws_toSeriesS.mono _ _
  | exact spec_TallyOf.mono _ _ _ _ _ _ _ _
  | exact LeO.none _
  | refine LeO.ite ?_ ?_
  | refine LeO.bind ?_ (fun _ => ?_)
def laws_FnExactTallyOf.T10 : Bool × List (List Nat × List Nat) := (true, [([], []), ([0], [0]), ([], []), ([2, 1], [2]), ([], []), ([], []), ([], []), ([6, 3], [6]), ([1, 3, 4, 5, 7, 7], [1, 3, 4, 5, 7]), ([8], [8]), ([9], [9]), ([9], [9]), ([], []), ([12, 10, 8, 0, 1, 2, 3, 4, 5, 6, 7, 8, 9, 10, 12], [10, 12]), ([11, 13, 0, 1, 2, 3, 4, 5, 6, 7, 8, 9, 10, 11, 12, 13], [11])])
def laws_FnExactTallyOf.B10 : List Nat := [0, 1, 0, 7, 0, 0, 0, 79, 255, 511, 1023, 1023, 0, 6143, 16383]
theorem laws_FnExactTallyOf.tab10 : rtab .any (opsOf Try.f9 10) = laws_FnExactTallyOf.T10 := by kernel_rfl
theorem laws_FnExactTallyOf.bits10 : waitsOk laws_FnExactTallyOf.T10.2 laws_FnExactTallyOf.B10 = true := by kernel_rfl
set_option maxHeartbeats 8000000 in
set_option maxRecDepth 100000 in
theorem laws_FnExactTallyOf.calls (k : Nat) (A0 : Option Addr) (c0 : Nat) (l0 : List (S144)) (A1 : Option Addr) (c1 : Nat) (l1 : List (S137)) (a2 : ByteArray) (a3 : Int) (a4_0 : Int) (a4_1 : Int) (a4_2 : Int) (r : Bool) (w : World) (hr0 : Kd.C k144 w A0 l0.length l0) (hc0 : l0.length ≤ c0) (hr1 : Kd.C k137 w A1 l1.length l1) (hc1 : l1.length ≤ c1) (h : laws_FnExactTallyOf.f k l0 l1 a2 a3 a4_0 a4_1 a4_2 = some r) :
 Calls Try.prog 9 #[.slice A0 l0.length c0, .slice A1 l1.length c1, .string a2, .int .i64 a3, .agg #[.int .i64 a4_0, .int .i64 a4_1, .int .i64 a4_2]] w fun e w' => e = .returned (.bool r) ∧ Below w.heap.size w w' := by
 have hu56 := Try.underlying56
 have hu83 := Try.underlying83
 have HR0 := Aside0.mk hr0
 have HC0 := Aside0.mk hc0
 clear hr0 hc0
 have HR1 := Aside0.mk hr1
 have HC1 := Aside0.mk hc1
 clear hr1 hc1
 have HB := Aside0.mk (Below.refl w.heap.size w)
 have H : (if (a2.size : Int) > 1048576 then (some true) else ((laws_szPodS.f k l0 1048576).bind fun t899 => (if t899 < 0 then (some true) else ((laws_szSeriesS.f k l1 t899).bind fun t900 => (if t900 < 0 then (some true) else ((laws_toPodS.f k l0).bind fun t901 => ((laws_toSeriesS.f k l1).bind fun t904 => ((laws_toRules.f a4_0 a4_1 a4_2).bind fun bt907 => ((spec_TallyOf.f k t901 t904 a2 a3 bt907.1 bt907.2.1 bt907.2.2).bind fun bt910 => ((laws_toPodS.f k l0).bind fun t916 => ((laws_toSeriesS.f k l1).bind fun t919 => ((laws_toRules.f a4_0 a4_1 a4_2).bind fun bt922 => ((impl_TallyOf.f k t916 t919 a2 a3 bt922.1 bt922.2.1 bt922.2.2).bind fun bt925 => ((laws_eqTally.f bt925.1 bt925.2.1 bt925.2.2.1 bt925.2.2.2.1 bt910.1 bt910.2.1 bt910.2.2.1 bt910.2.2.2.1).bind fun t931 => (if t931 = true then (laws_FnExactTallyOf.j0 k l0 l1 t916 t919 (bt925.2.2.2.2 != bt910.2.2.2.2)) else (laws_FnExactTallyOf.j0 k l0 l1 t916 t919 true)))))))))))))))) = some r := h
 clear h
 by_cases c6 : (a2.size : Int) > 1048576
 · rw [if_pos c6] at H
   have c6b0 : decide (1048576 < (a2.size : Int)) = true := decide_eq_true c6
   have c6b1 : decide (1048576 < a2.size) = true := decide_eq_true (by omega)
   clear c6
   obtain rfl := Option.some.inj H
   go_enter Try.func9, Try.ntmps9
   go_wp2_with (first | ((with_reducible refine gate_dst (N := 9) rfl ?_); refine bx 9 #[.int .i64 a4_0, .int .i64 a4_1, .int .i64 a4_2] 56 ?_; intro gb898 hg w7 hbox hb; have BK898 := ak hbox; have GW898 := gs hg bl; have GE898 := gs hg bl; replace HB := ak (below_step bl hb); clear hb hbox hg))
   go_ret
   exact ⟨ew, bl1 GE898⟩
 · rw [if_neg c6] at H
   have c6b0 : decide (1048576 < (a2.size : Int)) = false := decide_eq_false c6
   have c6b1 : decide (1048576 < a2.size) = false := decide_eq_false (by omega)
   clear c6
   obtain ⟨t899, A80, H⟩ := bo H
   have A8 := Aside0.mk A80
   clear A80
   by_cases c9 : t899 < 0
   · rw [if_pos c9] at H
     have c9b0 : decide (t899 < 0) = true := decide_eq_true c9
     clear c9
     obtain rfl := Option.some.inj H
     go_enter Try.func9, Try.ntmps9
     go_wp2_with (first | ((with_reducible refine gate_dst (N := 9) rfl ?_); refine bx 9 #[.int .i64 a4_0, .int .i64 a4_1, .int .i64 a4_2] 56 ?_; intro gb898 hg w10 hbox hb; have BK898 := ak hbox; have GW898 := gs hg bl; have GE898 := gs hg bl; replace HB := ak (below_step bl hb); clear hb hbox hg) | ((with_reducible refine gate_callee (f := 32) rfl ?_); refine gl (some 23) Try.func32 #[.slice A0 l0.length c0, .int .i64 1048576] ?_; (with_reducible refine (laws_szPodS.calls k _ _ l0 1048576 t899 _ ?side1 ?side2 A8.out).mono ?_); (case side1 => exact cb HR0); (case side2 => exact HC0.out); rintro e w11 ⟨rfl, hb⟩; refine ⟨_, rfl, ?_⟩; replace BK898 := bb BK898 hb; replace HB := ak (below_step (bl1 GE898) hb); (try clear hb); (try clear hb2); (try clear hk); (try clear hi)))
     go_ret
     exact ⟨ew, bl1 GE898⟩
   · rw [if_neg c9] at H
     have c9b0 : decide (t899 < 0) = false := decide_eq_false c9
     clear c9
     obtain ⟨t900, A120, H⟩ := bo H
     have A12 := Aside0.mk A120
     clear A120
     by_cases c13 : t900 < 0
     · rw [if_pos c13] at H
       have c13b0 : decide (t900 < 0) = true := decide_eq_true c13
       clear c13
       obtain rfl := Option.some.inj H
       go_enter Try.func9, Try.ntmps9
       go_wp2_with (first | ((with_reducible refine gate_dst (N := 9) rfl ?_); refine bx 9 #[.int .i64 a4_0, .int .i64 a4_1, .int .i64 a4_2] 56 ?_; intro gb898 hg w14 hbox hb; have BK898 := ak hbox; have GW898 := gs hg bl; have GE898 := gs hg bl; replace HB := ak (below_step bl hb); clear hb hbox hg) | ((with_reducible refine gate_callee (f := 32) rfl ?_); refine gl (some 23) Try.func32 #[.slice A0 l0.length c0, .int .i64 1048576] ?_; (with_reducible refine (laws_szPodS.calls k _ _ l0 1048576 t899 _ ?side1 ?side2 A8.out).mono ?_); (case side1 => exact cb HR0); (case side2 => exact HC0.out); rintro e w15 ⟨rfl, hb⟩; refine ⟨_, rfl, ?_⟩; replace BK898 := bb BK898 hb; replace HB := ak (below_step (bl1 GE898) hb); (try clear hb); (try clear hb2); (try clear hk); (try clear hi)) | ((with_reducible refine gate_callee (f := 21) rfl ?_); refine gl (some 28) Try.func21 #[.slice A1 l1.length c1, .int .i64 t899] ?_; (with_reducible refine (laws_szSeriesS.calls k _ _ l1 t899 t900 _ ?side1 ?side2 A12.out).mono ?_); (case side1 => exact cb HR1); (case side2 => exact HC1.out); rintro e w16 ⟨rfl, hb⟩; refine ⟨_, rfl, ?_⟩; replace BK898 := bb BK898 hb; replace HB := ak (below_step (bl1 GE898) hb); (try clear hb); (try clear hb2); (try clear hk); (try clear hi)))
       go_ret
       exact ⟨ew, bl1 GE898⟩
     · rw [if_neg c13] at H
       have c13b0 : decide (t900 < 0) = false := decide_eq_false c13
       clear c13
       obtain ⟨t901, A170, H⟩ := bo H
       have A17 := Aside0.mk A170
       clear A170
       obtain ⟨t904, A180, H⟩ := bo H
       have A18 := Aside0.mk A180
       clear A180
       replace H := Option.bind_eq_some_iff.mp H
       obtain ⟨⟨t907, t908, t909⟩, A190, H⟩ := H
       replace H : ((spec_TallyOf.f k t901 t904 a2 a3 t907 t908 t909).bind fun bt910 => ((laws_toPodS.f k l0).bind fun t916 => ((laws_toSeriesS.f k l1).bind fun t919 => ((laws_toRules.f a4_0 a4_1 a4_2).bind fun bt922 => ((impl_TallyOf.f k t916 t919 a2 a3 bt922.1 bt922.2.1 bt922.2.2).bind fun bt925 => ((laws_eqTally.f bt925.1 bt925.2.1 bt925.2.2.1 bt925.2.2.2.1 bt910.1 bt910.2.1 bt910.2.2.1 bt910.2.2.2.1).bind fun t931 => (if t931 = true then (laws_FnExactTallyOf.j0 k l0 l1 t916 t919 (bt925.2.2.2.2 != bt910.2.2.2.2)) else (laws_FnExactTallyOf.j0 k l0 l1 t916 t919 true)))))))) = some r := H
       have A19 := Aside0.mk A190
       clear A190
       replace H := Option.bind_eq_some_iff.mp H
       obtain ⟨⟨t910, t911, t912, t913, t914⟩, A200, H⟩ := H
       replace H : ((laws_toPodS.f k l0).bind fun t916 => ((laws_toSeriesS.f k l1).bind fun t919 => ((laws_toRules.f a4_0 a4_1 a4_2).bind fun bt922 => ((impl_TallyOf.f k t916 t919 a2 a3 bt922.1 bt922.2.1 bt922.2.2).bind fun bt925 => ((laws_eqTally.f bt925.1 bt925.2.1 bt925.2.2.1 bt925.2.2.2.1 t910 t911 t912 t913).bind fun t931 => (if t931 = true then (laws_FnExactTallyOf.j0 k l0 l1 t916 t919 (bt925.2.2.2.2 != t914)) else (laws_FnExactTallyOf.j0 k l0 l1 t916 t919 true))))))) = some r := H
       have A20 := Aside0.mk A200
       clear A200
       obtain ⟨t916, A210, H⟩ := bo H
       have A21 := Aside0.mk A210
       clear A210
       obtain ⟨t919, A220, H⟩ := bo H
       have A22 := Aside0.mk A220
       clear A220
       replace H := Option.bind_eq_some_iff.mp H
       obtain ⟨⟨t922, t923, t924⟩, A230, H⟩ := H
       replace H : ((impl_TallyOf.f k t916 t919 a2 a3 t922 t923 t924).bind fun bt925 => ((laws_eqTally.f bt925.1 bt925.2.1 bt925.2.2.1 bt925.2.2.2.1 t910 t911 t912 t913).bind fun t931 => (if t931 = true then (laws_FnExactTallyOf.j0 k l0 l1 t916 t919 (bt925.2.2.2.2 != t914)) else (laws_FnExactTallyOf.j0 k l0 l1 t916 t919 true)))) = some r := H
       have A23 := Aside0.mk A230
       clear A230
       replace H := Option.bind_eq_some_iff.mp H
       obtain ⟨⟨t925, t926, t927, t928, t929⟩, A240, H⟩ := H
       replace H : ((laws_eqTally.f t925 t926 t927 t928 t910 t911 t912 t913).bind fun t931 => (if t931 = true then (laws_FnExactTallyOf.j0 k l0 l1 t916 t919 (t929 != t914)) else (laws_FnExactTallyOf.j0 k l0 l1 t916 t919 true))) = some r := H
       have A24 := Aside0.mk A240
       clear A240
       have HC25 := Aside0.mk H
       clear H
       go_enter Try.func9, Try.ntmps9
       try go_wp2_with (first | ((with_reducible refine gate_dst (N := 9) rfl ?_); refine bx 9 #[.int .i64 a4_0, .int .i64 a4_1, .int .i64 a4_2] 56 ?_; intro gb898 hg w26 hbox hb; have BK898 := ak hbox; have GW898 := gs hg bl; have GE898 := gs hg bl; replace HB := ak (below_step bl hb); clear hb hbox hg) | ((with_reducible refine gate_callee (f := 32) rfl ?_); refine gl (some 23) Try.func32 #[.slice A0 l0.length c0, .int .i64 1048576] ?_; (with_reducible refine (laws_szPodS.calls k _ _ l0 1048576 t899 _ ?side1 ?side2 A8.out).mono ?_); (case side1 => exact cb HR0); (case side2 => exact HC0.out); rintro e w27 ⟨rfl, hb⟩; refine ⟨_, rfl, ?_⟩; replace BK898 := bb BK898 hb; replace HB := ak (below_step (bl1 GE898) hb); (try clear hb); (try clear hb2); (try clear hk); (try clear hi)) | ((with_reducible refine gate_callee (f := 21) rfl ?_); refine gl (some 28) Try.func21 #[.slice A1 l1.length c1, .int .i64 t899] ?_; (with_reducible refine (laws_szSeriesS.calls k _ _ l1 t899 t900 _ ?side1 ?side2 A12.out).mono ?_); (case side1 => exact cb HR1); (case side2 => exact HC1.out); rintro e w28 ⟨rfl, hb⟩; refine ⟨_, rfl, ?_⟩; replace BK898 := bb BK898 hb; replace HB := ak (below_step (bl1 GE898) hb); (try clear hb); (try clear hb2); (try clear hk); (try clear hi)))
       replace BK898 := ak (blk_drew BK898.out)
       replace HB := ak (below_drew1 HB.out)
       refine start_ (n := 15) (S := fun w' => w'.cell? ⟨gb898, 0, none⟩ = some (.int .i64 a4_0) ∧ w'.cell? ⟨gb898, 1, none⟩ = some (.int .i64 a4_1) ∧ w'.cell? ⟨gb898, 2, none⟩ = some (.int .i64 a4_2)) (ds := []) (bitsA 15 0) (by kernel_rfl) rfl rfl ⟨bc BK898 0, bc BK898 1, bc BK898 2⟩ (fun hHeld => ?_); refine with_tabW laws_FnExactTallyOf.tab10 laws_FnExactTallyOf.bits10 (fun HT_ HW_ => ?_)
       generalize w28.drew = w29 at BK898 HB hHeld ⊢
       refine pu 0 (some 32) (bitsA 15 1) ?_
       refine pu 2 (some 34) (bitsA 15 5) ?_
       refine pu 4 (some 36) (bitsA 15 21) ?_
       refine pu 5 (some 37) (bitsA 15 53) ?_
       refine tk 6 (some 38) (bitsA 15 117) hHeld ?_ (hy := Or.inl ⟨by rfl, by rintro w' ⟨s0, s1, s2⟩; go_simp; with_reducible rfl⟩)
       refine join_ (σ := Value × Value × Nat) 2 (bitsA 15 8191) (fun s_ => [(33, s_.1), (35, s_.2.1), (39, .agg #[.int .i64 t907, .int .i64 t908, .int .i64 t909]), (40, .tuple #[.agg #[.int .i64 t910, .int .i64 t911, .int .i64 t912, .int .i64 t913], .bool t914]), (12, .pointer (some ⟨s_.2.2, 0, none⟩)), (31, .tuple #[.agg #[.int .i64 t910, .int .i64 t911, .int .i64 t912, .int .i64 t913], .bool t914]), (41, .agg #[.int .i64 t910, .int .i64 t911, .int .i64 t912, .int .i64 t913]), (42, .bool t914)]) (fun s_ w' => (w'.cell? ⟨gb898, 0, none⟩ = some (.int .i64 a4_0) ∧ w'.cell? ⟨gb898, 1, none⟩ = some (.int .i64 a4_1) ∧ w'.cell? ⟨gb898, 2, none⟩ = some (.int .i64 a4_2)) ∧ (Kd.R k147 147 w' w.heap.size (fun _ => True) s_.1 t901) ∧ (Kd.S k81 81 w' w.heap.size (fun _ => True) s_.2.1 t904) ∧ (w'.heap[gb898]? = some (.cells #[.int .i64 a4_0, .int .i64 a4_1, .int .i64 a4_2] 56 (0, 0))) ∧ (w'.heap[s_.2.2]? = some (.cells #[.int .i64 0, .int .i64 0, .int .i64 0, .int .i64 0] 83 (0, 0))) ∧ (w.heap.size ≤ s_.2.2) ∧ (w.heap.size ≤ s_.2.2) ∧ (gb898 ≠ s_.2.2) ∧ (s_.2.2 ≠ gb898) ∧ (Below w.heap.size w w')) ?_ ?_
       rotate_left
       · intro hJ1_3_7_8_12
         refine join_ (σ := Value × Value) 3 (bitsA 15 4095) (fun s_ => [(33, s_.1), (35, s_.2), (39, .agg #[.int .i64 t907, .int .i64 t908, .int .i64 t909]), (40, .tuple #[.agg #[.int .i64 t910, .int .i64 t911, .int .i64 t912, .int .i64 t913], .bool t914]), (31, .tuple #[.agg #[.int .i64 t910, .int .i64 t911, .int .i64 t912, .int .i64 t913], .bool t914]), (41, .agg #[.int .i64 t910, .int .i64 t911, .int .i64 t912, .int .i64 t913]), (42, .bool t914)]) (fun s_ w' => (w'.cell? ⟨gb898, 0, none⟩ = some (.int .i64 a4_0) ∧ w'.cell? ⟨gb898, 1, none⟩ = some (.int .i64 a4_1) ∧ w'.cell? ⟨gb898, 2, none⟩ = some (.int .i64 a4_2)) ∧ (Kd.R k147 147 w' w.heap.size (fun _ => True) s_.1 t901) ∧ (Kd.S k81 81 w' w.heap.size (fun _ => True) s_.2 t904) ∧ (w'.heap[gb898]? = some (.cells #[.int .i64 a4_0, .int .i64 a4_1, .int .i64 a4_2] 56 (0, 0))) ∧ (Below w.heap.size w w')) ?_ ?_
         rotate_left
         · intro hJ1_3_7_8
           refine join_ (σ := Value × Value × Nat) 6 (bitsA 15 4351) (fun s_ => [(33, s_.1), (35, s_.2.1), (39, .agg #[.int .i64 t907, .int .i64 t908, .int .i64 t909]), (12, .pointer (some ⟨s_.2.2, 0, none⟩))]) (fun s_ w' => (w'.cell? ⟨gb898, 0, none⟩ = some (.int .i64 a4_0) ∧ w'.cell? ⟨gb898, 1, none⟩ = some (.int .i64 a4_1) ∧ w'.cell? ⟨gb898, 2, none⟩ = some (.int .i64 a4_2)) ∧ (Kd.R k147 147 w' w.heap.size (fun _ => True) s_.1 t901) ∧ (Kd.S k81 81 w' w.heap.size (fun _ => True) s_.2.1 t904) ∧ (w'.heap[gb898]? = some (.cells #[.int .i64 a4_0, .int .i64 a4_1, .int .i64 a4_2] 56 (0, 0))) ∧ (w'.heap[s_.2.2]? = some (.cells #[.int .i64 0, .int .i64 0, .int .i64 0, .int .i64 0] 83 (0, 0))) ∧ (w.heap.size ≤ s_.2.2) ∧ (w.heap.size ≤ s_.2.2) ∧ (gb898 ≠ s_.2.2) ∧ (s_.2.2 ≠ gb898) ∧ (Below w.heap.size w w')) ?_ ?_
           rotate_left
           · intro hJ1_3_7_12
             refine join_ (σ := Value × Value) 7 (bitsA 15 255) (fun s_ => [(33, s_.1), (35, s_.2), (39, .agg #[.int .i64 t907, .int .i64 t908, .int .i64 t909])]) (fun s_ w' => (w'.cell? ⟨gb898, 0, none⟩ = some (.int .i64 a4_0) ∧ w'.cell? ⟨gb898, 1, none⟩ = some (.int .i64 a4_1) ∧ w'.cell? ⟨gb898, 2, none⟩ = some (.int .i64 a4_2)) ∧ (Kd.R k147 147 w' w.heap.size (fun _ => True) s_.1 t901) ∧ (Kd.S k81 81 w' w.heap.size (fun _ => True) s_.2 t904) ∧ (w'.heap[gb898]? = some (.cells #[.int .i64 a4_0, .int .i64 a4_1, .int .i64 a4_2] 56 (0, 0))) ∧ (Below w.heap.size w w')) ?_ ?_
             rotate_left
             · intro hJ1_3_7
               refine join_ (σ := Value × Value × Nat) 7 (bitsA 15 4223) (fun s_ => [(33, s_.1), (35, s_.2.1), (12, .pointer (some ⟨s_.2.2, 0, none⟩))]) (fun s_ w' => (w'.cell? ⟨gb898, 0, none⟩ = some (.int .i64 a4_0) ∧ w'.cell? ⟨gb898, 1, none⟩ = some (.int .i64 a4_1) ∧ w'.cell? ⟨gb898, 2, none⟩ = some (.int .i64 a4_2)) ∧ (Kd.R k147 147 w' w.heap.size (fun _ => True) s_.1 t901) ∧ (Kd.S k81 81 w' w.heap.size (fun _ => True) s_.2.1 t904) ∧ (w'.heap[gb898]? = some (.cells #[.int .i64 a4_0, .int .i64 a4_1, .int .i64 a4_2] 56 (0, 0))) ∧ (w'.heap[s_.2.2]? = some (.cells #[.int .i64 0, .int .i64 0, .int .i64 0, .int .i64 0] 83 (0, 0))) ∧ (w.heap.size ≤ s_.2.2) ∧ (w.heap.size ≤ s_.2.2) ∧ (gb898 ≠ s_.2.2) ∧ (s_.2.2 ≠ gb898) ∧ (Below w.heap.size w w')) ?_ ?_
               rotate_left
               · intro hJ1_3_12
                 refine join_ (σ := Value × Value) 8 (bitsA 15 127) (fun s_ => [(33, s_.1), (35, s_.2)]) (fun s_ w' => (w'.cell? ⟨gb898, 0, none⟩ = some (.int .i64 a4_0) ∧ w'.cell? ⟨gb898, 1, none⟩ = some (.int .i64 a4_1) ∧ w'.cell? ⟨gb898, 2, none⟩ = some (.int .i64 a4_2)) ∧ (Kd.R k147 147 w' w.heap.size (fun _ => True) s_.1 t901) ∧ (Kd.S k81 81 w' w.heap.size (fun _ => True) s_.2 t904) ∧ (w'.heap[gb898]? = some (.cells #[.int .i64 a4_0, .int .i64 a4_1, .int .i64 a4_2] 56 (0, 0))) ∧ (Below w.heap.size w w')) ?_ ?_
                 rotate_left
                 · intro hJ1_3
                   refine join_ (σ := Value × Nat) 8 (bitsA 15 4215) (fun s_ => [(33, s_.1), (12, .pointer (some ⟨s_.2, 0, none⟩))]) (fun s_ w' => (w'.cell? ⟨gb898, 0, none⟩ = some (.int .i64 a4_0) ∧ w'.cell? ⟨gb898, 1, none⟩ = some (.int .i64 a4_1) ∧ w'.cell? ⟨gb898, 2, none⟩ = some (.int .i64 a4_2)) ∧ (Kd.R k147 147 w' w.heap.size (fun _ => True) s_.1 t901) ∧ (w'.heap[gb898]? = some (.cells #[.int .i64 a4_0, .int .i64 a4_1, .int .i64 a4_2] 56 (0, 0))) ∧ (w'.heap[s_.2]? = some (.cells #[.int .i64 0, .int .i64 0, .int .i64 0, .int .i64 0] 83 (0, 0))) ∧ (w.heap.size ≤ s_.2) ∧ (w.heap.size ≤ s_.2) ∧ (gb898 ≠ s_.2) ∧ (s_.2 ≠ gb898) ∧ (Below w.heap.size w w')) ?_ ?_
                   rotate_left
                   · intro hJ1_12
                     refine join_ (σ := Value) 9 (bitsA 15 119) (fun s_ => [(33, s_)]) (fun s_ w' => (w'.cell? ⟨gb898, 0, none⟩ = some (.int .i64 a4_0) ∧ w'.cell? ⟨gb898, 1, none⟩ = some (.int .i64 a4_1) ∧ w'.cell? ⟨gb898, 2, none⟩ = some (.int .i64 a4_2)) ∧ (Kd.R k147 147 w' w.heap.size (fun _ => True) s_ t901) ∧ (w'.heap[gb898]? = some (.cells #[.int .i64 a4_0, .int .i64 a4_1, .int .i64 a4_2] 56 (0, 0))) ∧ (Below w.heap.size w w')) ?_ ?_
                     rotate_left
                     · intro hJ1
                       refine join_ (σ := Nat) 9 (bitsA 15 4213) (fun s_ => [(12, .pointer (some ⟨s_, 0, none⟩))]) (fun s_ w' => (w'.cell? ⟨gb898, 0, none⟩ = some (.int .i64 a4_0) ∧ w'.cell? ⟨gb898, 1, none⟩ = some (.int .i64 a4_1) ∧ w'.cell? ⟨gb898, 2, none⟩ = some (.int .i64 a4_2)) ∧ (w'.heap[gb898]? = some (.cells #[.int .i64 a4_0, .int .i64 a4_1, .int .i64 a4_2] 56 (0, 0))) ∧ (w'.heap[s_]? = some (.cells #[.int .i64 0, .int .i64 0, .int .i64 0, .int .i64 0] 83 (0, 0))) ∧ (w.heap.size ≤ s_) ∧ (w.heap.size ≤ s_) ∧ (gb898 ≠ s_) ∧ (s_ ≠ gb898) ∧ (Below w.heap.size w w')) ?_ ?_
                       rotate_left
                       · intro hJ12
                         refine two_ (i := 1) (j := 12) (Ni := some 33) (Nj := some 12) (bitsA 15 119) (bitsA 15 4213) rfl rfl rfl rfl (two_of HT_.out (by kernel_rfl)) (by decide) (by decide) (fun K hK => ?_) (fun K hK => ?_)
                         · skip
                           refine goes_ Try.func34 (by kernel_rfl) rfl #[.slice A0 l0.length c0] (by rfl) rfl rfl mt ?_
                           with_reducible refine (laws_toPodS.calls k _ _ l0 t901 _ ?side1 ?side2 A17.out).mono ?_
                           (case side1 => exact cb HR0)
                           (case side2 => exact HC0.out)
                           rintro e w30 ⟨v902, rfl, ho0, hb⟩
                           refine ⟨_, rfl, ?_⟩
                           have HO903 := ak (Kd.R_lower ho0 (below_size (bl1 GE898)))
                           replace BK898 := bb BK898 hb
                           replace HB := ak (below_step (bl1 GE898) hb)
                           (try clear hb)
                           (try clear hb2)
                           (try clear hk)
                           (try clear hi)
                           (try clear ho0)
                           refine hK.out _ _ ⟨bc BK898 0, bc BK898 1, bc BK898 2⟩ (fun hHeld => ?_)
                           clear hK K
                           refine nm ?_
                           exact norm_ (by first | (simp only [putAll, Act.put, List.setIfInBounds_toArray, List.set_cons_zero, List.set_cons_succ]; done) | (simp only [putAll, Act.put, List.setIfInBounds_toArray, List.set_cons_zero, List.set_cons_succ]; rfl)) (hJ1 (v902) _ ⟨hHeld, (kr HO903), (bk BK898), (bl1 GE898)⟩)
                         · skip
                           refine box_step ?hg (N := 12) ?hd (cs := #[.int .i64 0, .int .i64 0, .int .i64 0, .int .i64 0]) (t := 83) ?hr ?_; (case hd => rfl); (case hg => rfl); (case hr => first | (go_simp; done) | (go_simp; rfl))
                           intro gb915 hg w30 hbox hb
                           have BK915 := ak hbox
                           have GW915 := gs hg (bl1 GE898)
                           have GE915 := gs hg (bl1 GE898)
                           replace HB := ak (below_step (bl1 GE898) hb)
                           have NB898_915 := nl hg BK898
                           have NB915_898 := ng hg BK898
                           replace BK898 := bb BK898 hb
                           clear hb hbox hg
                           refine hK.out _ _ ⟨bc BK898 0, bc BK898 1, bc BK898 2⟩ (fun hHeld => ?_)
                           clear hK K
                           refine nm ?_
                           exact norm_ (by first | (simp only [putAll, Act.put, List.setIfInBounds_toArray, List.set_cons_zero, List.set_cons_succ]; done) | (simp only [putAll, Act.put, List.setIfInBounds_toArray, List.set_cons_zero, List.set_cons_succ]; rfl)) (hJ12 (gb915) _ ⟨hHeld, (bk BK898), (bk BK915), GW915.out, GE915.out, NB898_915.out, NB915_898.out, (bl2 GE898 GE915)⟩)
                       · skip
                         rintro gb915 w31 ⟨hS_, h0_, h1_, h2_, h3_, h4_, h5_, h6_⟩
                         have n0_ : Aside0 (w31.heap[gb898]? = some (.cells #[.int .i64 a4_0, .int .i64 a4_1, .int .i64 a4_2] 56 (0, 0))) := ⟨h0_⟩
                         have n1_ : Aside0 (w31.heap[gb915]? = some (.cells #[.int .i64 0, .int .i64 0, .int .i64 0, .int .i64 0] 83 (0, 0))) := ⟨h1_⟩
                         have n2_ : Aside0 (w.heap.size ≤ gb915) := ⟨h2_⟩
                         have n3_ : Aside0 (w.heap.size ≤ gb915) := ⟨h3_⟩
                         have n4_ : Aside0 (gb898 ≠ gb915) := ⟨h4_⟩
                         have n5_ : Aside0 (gb915 ≠ gb898) := ⟨h5_⟩
                         have n6_ : Aside0 (Below w.heap.size w w31) := ⟨h6_⟩
                         clear BK898
                         clear HB
                         clear h0_ h1_ h2_ h3_ h4_ h5_ h6_
                         have BK898 := n0_
                         have BK915 := n1_
                         have GW915 := n2_
                         have GE915 := n3_
                         have NB898_915 := n4_
                         have NB915_898 := n5_
                         have HB := n6_
                         clear n0_ n1_ n2_ n3_ n4_ n5_ n6_
                         have hHeld : w31.cell? ⟨gb898, 0, none⟩ = some (.int .i64 a4_0) ∧ w31.cell? ⟨gb898, 1, none⟩ = some (.int .i64 a4_1) ∧ w31.cell? ⟨gb898, 2, none⟩ = some (.int .i64 a4_2) := hS_
                         refine norm_ (a' := ?_) ?_ ?_
                         rotate_left
                         · simp only [putAll, Act.put, List.setIfInBounds_toArray, List.set_cons_zero, List.set_cons_succ]
                           rfl
                         refine one_ (i := 1) (N := some 33) (bitsA 15 4215) rfl rfl (one_of HT_.out (by kernel_rfl)) (by decide) (fun K hK => ?_)
                         refine goes_ Try.func34 (by kernel_rfl) rfl #[.slice A0 l0.length c0] (by rfl) rfl rfl mt ?_
                         with_reducible refine (laws_toPodS.calls k _ _ l0 t901 _ ?side1 ?side2 A17.out).mono ?_
                         (case side1 => exact cb HR0)
                         (case side2 => exact HC0.out)
                         rintro e w32 ⟨v902, rfl, ho0, hb⟩
                         refine ⟨_, rfl, ?_⟩
                         have HO903 := ak (Kd.R_lower ho0 (below_size (bl2 GE898 GE915)))
                         replace BK898 := bb BK898 hb
                         replace BK915 := bb BK915 hb
                         replace HB := ak (below_step (bl2 GE898 GE915) hb)
                         (try clear hb)
                         (try clear hb2)
                         (try clear hk)
                         (try clear hi)
                         (try clear ho0)
                         refine hK.out _ _ ⟨bc BK898 0, bc BK898 1, bc BK898 2⟩ (fun hHeld => ?_)
                         clear hK K
                         refine nm ?_
                         exact norm_ (by first | (simp only [putAll, Act.put, List.setIfInBounds_toArray, List.set_cons_zero, List.set_cons_succ]; done) | (simp only [putAll, Act.put, List.setIfInBounds_toArray, List.set_cons_zero, List.set_cons_succ]; rfl)) (hJ1_12 (v902, gb915) _ ⟨hHeld, (kr HO903), (bk BK898), (bk BK915), GW915.out, GE915.out, NB898_915.out, NB915_898.out, (bl2 GE898 GE915)⟩)
                     · skip
                       rintro v902 w31 ⟨hS_, h0_, h1_, h2_⟩
                       have n0_ : Aside0 (Kd.R k147 147 w31 w.heap.size (fun _ => True) v902 t901) := ⟨h0_⟩
                       have n1_ : Aside0 (w31.heap[gb898]? = some (.cells #[.int .i64 a4_0, .int .i64 a4_1, .int .i64 a4_2] 56 (0, 0))) := ⟨h1_⟩
                       have n2_ : Aside0 (Below w.heap.size w w31) := ⟨h2_⟩
                       clear BK898
                       clear HB
                       clear h0_ h1_ h2_
                       have HO903 := n0_
                       have BK898 := n1_
                       have HB := n2_
                       clear n0_ n1_ n2_
                       have hHeld : w31.cell? ⟨gb898, 0, none⟩ = some (.int .i64 a4_0) ∧ w31.cell? ⟨gb898, 1, none⟩ = some (.int .i64 a4_1) ∧ w31.cell? ⟨gb898, 2, none⟩ = some (.int .i64 a4_2) := hS_
                       refine norm_ (a' := ?_) ?_ ?_
                       rotate_left
                       · simp only [putAll, Act.put, List.setIfInBounds_toArray, List.set_cons_zero, List.set_cons_succ]
                         rfl
                       refine two_ (i := 3) (j := 12) (Ni := some 35) (Nj := some 12) (bitsA 15 127) (bitsA 15 4215) rfl rfl rfl rfl (two_of HT_.out (by kernel_rfl)) (by decide) (by decide) (fun K hK => ?_) (fun K hK => ?_)
                       · skip
                         refine goes_ Try.func23 (by kernel_rfl) rfl #[.slice A1 l1.length c1] (by rfl) rfl rfl mt ?_
                         with_reducible refine (laws_toSeriesS.calls k _ _ l1 t904 _ ?side1 ?side2 A18.out).mono ?_
                         (case side1 => exact cb HR1)
                         (case side2 => exact HC1.out)
                         rintro e w32 ⟨v905, rfl, ho0, hb⟩
                         refine ⟨_, rfl, ?_⟩
                         replace HO903 := ak (Kd.R_below (kr HO903) hb)
                         have HO906 := ak (Kd.S_lower ho0 (below_size (bl1 GE898)))
                         replace BK898 := bb BK898 hb
                         replace HB := ak (below_step (bl1 GE898) hb)
                         (try clear hb)
                         (try clear hb2)
                         (try clear hk)
                         (try clear hi)
                         (try clear ho0)
                         refine hK.out _ _ ⟨bc BK898 0, bc BK898 1, bc BK898 2⟩ (fun hHeld => ?_)
                         clear hK K
                         refine nm ?_
                         exact norm_ (by first | (simp only [putAll, Act.put, List.setIfInBounds_toArray, List.set_cons_zero, List.set_cons_succ]; done) | (simp only [putAll, Act.put, List.setIfInBounds_toArray, List.set_cons_zero, List.set_cons_succ]; rfl)) (hJ1_3 (v902, v905) _ ⟨hHeld, (kr HO903), (ks HO906), (bk BK898), (bl1 GE898)⟩)
                       · skip
                         refine box_step ?hg (N := 12) ?hd (cs := #[.int .i64 0, .int .i64 0, .int .i64 0, .int .i64 0]) (t := 83) ?hr ?_; (case hd => rfl); (case hg => rfl); (case hr => first | (go_simp; done) | (go_simp; rfl))
                         intro gb915 hg w32 hbox hb
                         replace HO903 := ak (Kd.R_below (kr HO903) hb)
                         have BK915 := ak hbox
                         have GW915 := gs hg (bl1 GE898)
                         have GE915 := gs hg (bl1 GE898)
                         replace HB := ak (below_step (bl1 GE898) hb)
                         have NB898_915 := nl hg BK898
                         have NB915_898 := ng hg BK898
                         replace BK898 := bb BK898 hb
                         clear hb hbox hg
                         refine hK.out _ _ ⟨bc BK898 0, bc BK898 1, bc BK898 2⟩ (fun hHeld => ?_)
                         clear hK K
                         refine nm ?_
                         exact norm_ (by first | (simp only [putAll, Act.put, List.setIfInBounds_toArray, List.set_cons_zero, List.set_cons_succ]; done) | (simp only [putAll, Act.put, List.setIfInBounds_toArray, List.set_cons_zero, List.set_cons_succ]; rfl)) (hJ1_12 (v902, gb915) _ ⟨hHeld, (kr HO903), (bk BK898), (bk BK915), GW915.out, GE915.out, NB898_915.out, NB915_898.out, (bl2 GE898 GE915)⟩)
                   · skip
                     rintro ⟨v902, gb915⟩ w32 ⟨hS_, h0_, h1_, h2_, h3_, h4_, h5_, h6_, h7_⟩
                     have n0_ : Aside0 (Kd.R k147 147 w32 w.heap.size (fun _ => True) v902 t901) := ⟨h0_⟩
                     have n1_ : Aside0 (w32.heap[gb898]? = some (.cells #[.int .i64 a4_0, .int .i64 a4_1, .int .i64 a4_2] 56 (0, 0))) := ⟨h1_⟩
                     have n2_ : Aside0 (w32.heap[gb915]? = some (.cells #[.int .i64 0, .int .i64 0, .int .i64 0, .int .i64 0] 83 (0, 0))) := ⟨h2_⟩
                     have n3_ : Aside0 (w.heap.size ≤ gb915) := ⟨h3_⟩
                     have n4_ : Aside0 (w.heap.size ≤ gb915) := ⟨h4_⟩
                     have n5_ : Aside0 (gb898 ≠ gb915) := ⟨h5_⟩
                     have n6_ : Aside0 (gb915 ≠ gb898) := ⟨h6_⟩
                     have n7_ : Aside0 (Below w.heap.size w w32) := ⟨h7_⟩
                     clear BK898
                     clear HB
                     clear h0_ h1_ h2_ h3_ h4_ h5_ h6_ h7_
                     have HO903 := n0_
                     have BK898 := n1_
                     have BK915 := n2_
                     have GW915 := n3_
                     have GE915 := n4_
                     have NB898_915 := n5_
                     have NB915_898 := n6_
                     have HB := n7_
                     clear n0_ n1_ n2_ n3_ n4_ n5_ n6_ n7_
                     have hHeld : w32.cell? ⟨gb898, 0, none⟩ = some (.int .i64 a4_0) ∧ w32.cell? ⟨gb898, 1, none⟩ = some (.int .i64 a4_1) ∧ w32.cell? ⟨gb898, 2, none⟩ = some (.int .i64 a4_2) := hS_
                     refine norm_ (a' := ?_) ?_ ?_
                     rotate_left
                     · simp only [putAll, Act.put, List.setIfInBounds_toArray, List.set_cons_zero, List.set_cons_succ]
                       rfl
                     refine one_ (i := 3) (N := some 35) (bitsA 15 4223) rfl rfl (one_of HT_.out (by kernel_rfl)) (by decide) (fun K hK => ?_)
                     refine goes_ Try.func23 (by kernel_rfl) rfl #[.slice A1 l1.length c1] (by rfl) rfl rfl mt ?_
                     with_reducible refine (laws_toSeriesS.calls k _ _ l1 t904 _ ?side1 ?side2 A18.out).mono ?_
                     (case side1 => exact cb HR1)
                     (case side2 => exact HC1.out)
                     rintro e w33 ⟨v905, rfl, ho0, hb⟩
                     refine ⟨_, rfl, ?_⟩
                     replace HO903 := ak (Kd.R_below (kr HO903) hb)
                     have HO906 := ak (Kd.S_lower ho0 (below_size (bl2 GE898 GE915)))
                     replace BK898 := bb BK898 hb
                     replace BK915 := bb BK915 hb
                     replace HB := ak (below_step (bl2 GE898 GE915) hb)
                     (try clear hb)
                     (try clear hb2)
                     (try clear hk)
                     (try clear hi)
                     (try clear ho0)
                     refine hK.out _ _ ⟨bc BK898 0, bc BK898 1, bc BK898 2⟩ (fun hHeld => ?_)
                     clear hK K
                     refine nm ?_
                     exact norm_ (by first | (simp only [putAll, Act.put, List.setIfInBounds_toArray, List.set_cons_zero, List.set_cons_succ]; done) | (simp only [putAll, Act.put, List.setIfInBounds_toArray, List.set_cons_zero, List.set_cons_succ]; rfl)) (hJ1_3_12 (v902, v905, gb915) _ ⟨hHeld, (kr HO903), (ks HO906), (bk BK898), (bk BK915), GW915.out, GE915.out, NB898_915.out, NB915_898.out, (bl2 GE898 GE915)⟩)
                 · skip
                   rintro ⟨v902, v905⟩ w32 ⟨hS_, h0_, h1_, h2_, h3_⟩
                   have n0_ : Aside0 (Kd.R k147 147 w32 w.heap.size (fun _ => True) v902 t901) := ⟨h0_⟩
                   have n1_ : Aside0 (Kd.S k81 81 w32 w.heap.size (fun _ => True) v905 t904) := ⟨h1_⟩
                   have n2_ : Aside0 (w32.heap[gb898]? = some (.cells #[.int .i64 a4_0, .int .i64 a4_1, .int .i64 a4_2] 56 (0, 0))) := ⟨h2_⟩
                   have n3_ : Aside0 (Below w.heap.size w w32) := ⟨h3_⟩
                   clear BK898
                   clear HB
                   clear h0_ h1_ h2_ h3_
                   have HO903 := n0_
                   have HO906 := n1_
                   have BK898 := n2_
                   have HB := n3_
                   clear n0_ n1_ n2_ n3_
                   have hHeld : w32.cell? ⟨gb898, 0, none⟩ = some (.int .i64 a4_0) ∧ w32.cell? ⟨gb898, 1, none⟩ = some (.int .i64 a4_1) ∧ w32.cell? ⟨gb898, 2, none⟩ = some (.int .i64 a4_2) := hS_
                   refine norm_ (a' := ?_) ?_ ?_
                   rotate_left
                   · simp only [putAll, Act.put, List.setIfInBounds_toArray, List.set_cons_zero, List.set_cons_succ]
                     rfl
                   refine two_ (i := 7) (j := 12) (Ni := some 39) (Nj := some 12) (bitsA 15 255) (bitsA 15 4223) rfl rfl rfl rfl (two_of HT_.out (by kernel_rfl)) (by decide) (by decide) (fun K hK => ?_) (fun K hK => ?_)
                   · skip
                     refine goes_ Try.func35 (by kernel_rfl) rfl #[.agg #[.int .i64 a4_0, .int .i64 a4_1, .int .i64 a4_2]] (by rfl) rfl rfl mt ?_
                     with_reducible refine (laws_toRules.calls a4_0 a4_1 a4_2 t907 t908 t909 _ A19.out).mono ?_
                     rintro e w33 ⟨rfl, hb⟩
                     refine ⟨_, rfl, ?_⟩
                     replace HO903 := ak (Kd.R_below (kr HO903) hb)
                     replace HO906 := ak (Kd.S_below (ks HO906) hb)
                     replace BK898 := bb BK898 hb
                     replace HB := ak (below_step (bl1 GE898) hb)
                     (try clear hb)
                     (try clear hb2)
                     (try clear hk)
                     (try clear hi)
                     refine hK.out _ _ ⟨bc BK898 0, bc BK898 1, bc BK898 2⟩ (fun hHeld => ?_)
                     clear hK K
                     refine nm ?_
                     exact norm_ (by first | (simp only [putAll, Act.put, List.setIfInBounds_toArray, List.set_cons_zero, List.set_cons_succ]; done) | (simp only [putAll, Act.put, List.setIfInBounds_toArray, List.set_cons_zero, List.set_cons_succ]; rfl)) (hJ1_3_7 (v902, v905) _ ⟨hHeld, (kr HO903), (ks HO906), (bk BK898), (bl1 GE898)⟩)
                   · skip
                     refine box_step ?hg (N := 12) ?hd (cs := #[.int .i64 0, .int .i64 0, .int .i64 0, .int .i64 0]) (t := 83) ?hr ?_; (case hd => rfl); (case hg => rfl); (case hr => first | (go_simp; done) | (go_simp; rfl))
                     intro gb915 hg w33 hbox hb
                     replace HO903 := ak (Kd.R_below (kr HO903) hb)
                     replace HO906 := ak (Kd.S_below (ks HO906) hb)
                     have BK915 := ak hbox
                     have GW915 := gs hg (bl1 GE898)
                     have GE915 := gs hg (bl1 GE898)
                     replace HB := ak (below_step (bl1 GE898) hb)
                     have NB898_915 := nl hg BK898
                     have NB915_898 := ng hg BK898
                     replace BK898 := bb BK898 hb
                     clear hb hbox hg
                     refine hK.out _ _ ⟨bc BK898 0, bc BK898 1, bc BK898 2⟩ (fun hHeld => ?_)
                     clear hK K
                     refine nm ?_
                     exact norm_ (by first | (simp only [putAll, Act.put, List.setIfInBounds_toArray, List.set_cons_zero, List.set_cons_succ]; done) | (simp only [putAll, Act.put, List.setIfInBounds_toArray, List.set_cons_zero, List.set_cons_succ]; rfl)) (hJ1_3_12 (v902, v905, gb915) _ ⟨hHeld, (kr HO903), (ks HO906), (bk BK898), (bk BK915), GW915.out, GE915.out, NB898_915.out, NB915_898.out, (bl2 GE898 GE915)⟩)
               · skip
                 rintro ⟨v902, v905, gb915⟩ w33 ⟨hS_, h0_, h1_, h2_, h3_, h4_, h5_, h6_, h7_, h8_⟩
                 have n0_ : Aside0 (Kd.R k147 147 w33 w.heap.size (fun _ => True) v902 t901) := ⟨h0_⟩
                 have n1_ : Aside0 (Kd.S k81 81 w33 w.heap.size (fun _ => True) v905 t904) := ⟨h1_⟩
                 have n2_ : Aside0 (w33.heap[gb898]? = some (.cells #[.int .i64 a4_0, .int .i64 a4_1, .int .i64 a4_2] 56 (0, 0))) := ⟨h2_⟩
                 have n3_ : Aside0 (w33.heap[gb915]? = some (.cells #[.int .i64 0, .int .i64 0, .int .i64 0, .int .i64 0] 83 (0, 0))) := ⟨h3_⟩
                 have n4_ : Aside0 (w.heap.size ≤ gb915) := ⟨h4_⟩
                 have n5_ : Aside0 (w.heap.size ≤ gb915) := ⟨h5_⟩
                 have n6_ : Aside0 (gb898 ≠ gb915) := ⟨h6_⟩
                 have n7_ : Aside0 (gb915 ≠ gb898) := ⟨h7_⟩
                 have n8_ : Aside0 (Below w.heap.size w w33) := ⟨h8_⟩
                 clear BK898
                 clear HB
                 clear h0_ h1_ h2_ h3_ h4_ h5_ h6_ h7_ h8_
                 have HO903 := n0_
                 have HO906 := n1_
                 have BK898 := n2_
                 have BK915 := n3_
                 have GW915 := n4_
                 have GE915 := n5_
                 have NB898_915 := n6_
                 have NB915_898 := n7_
                 have HB := n8_
                 clear n0_ n1_ n2_ n3_ n4_ n5_ n6_ n7_ n8_
                 have hHeld : w33.cell? ⟨gb898, 0, none⟩ = some (.int .i64 a4_0) ∧ w33.cell? ⟨gb898, 1, none⟩ = some (.int .i64 a4_1) ∧ w33.cell? ⟨gb898, 2, none⟩ = some (.int .i64 a4_2) := hS_
                 refine norm_ (a' := ?_) ?_ ?_
                 rotate_left
                 · simp only [putAll, Act.put, List.setIfInBounds_toArray, List.set_cons_zero, List.set_cons_succ]
                   rfl
                 refine one_ (i := 7) (N := some 39) (bitsA 15 4351) rfl rfl (one_of HT_.out (by kernel_rfl)) (by decide) (fun K hK => ?_)
                 refine goes_ Try.func35 (by kernel_rfl) rfl #[.agg #[.int .i64 a4_0, .int .i64 a4_1, .int .i64 a4_2]] (by rfl) rfl rfl mt ?_
                 with_reducible refine (laws_toRules.calls a4_0 a4_1 a4_2 t907 t908 t909 _ A19.out).mono ?_
                 rintro e w34 ⟨rfl, hb⟩
                 refine ⟨_, rfl, ?_⟩
                 replace HO903 := ak (Kd.R_below (kr HO903) hb)
                 replace HO906 := ak (Kd.S_below (ks HO906) hb)
                 replace BK898 := bb BK898 hb
                 replace BK915 := bb BK915 hb
                 replace HB := ak (below_step (bl2 GE898 GE915) hb)
                 (try clear hb)
                 (try clear hb2)
                 (try clear hk)
                 (try clear hi)
                 refine hK.out _ _ ⟨bc BK898 0, bc BK898 1, bc BK898 2⟩ (fun hHeld => ?_)
                 clear hK K
                 refine nm ?_
                 exact norm_ (by first | (simp only [putAll, Act.put, List.setIfInBounds_toArray, List.set_cons_zero, List.set_cons_succ]; done) | (simp only [putAll, Act.put, List.setIfInBounds_toArray, List.set_cons_zero, List.set_cons_succ]; rfl)) (hJ1_3_7_12 (v902, v905, gb915) _ ⟨hHeld, (kr HO903), (ks HO906), (bk BK898), (bk BK915), GW915.out, GE915.out, NB898_915.out, NB915_898.out, (bl2 GE898 GE915)⟩)
             · skip
               rintro ⟨v902, v905⟩ w33 ⟨hS_, h0_, h1_, h2_, h3_⟩
               have n0_ : Aside0 (Kd.R k147 147 w33 w.heap.size (fun _ => True) v902 t901) := ⟨h0_⟩
               have n1_ : Aside0 (Kd.S k81 81 w33 w.heap.size (fun _ => True) v905 t904) := ⟨h1_⟩
               have n2_ : Aside0 (w33.heap[gb898]? = some (.cells #[.int .i64 a4_0, .int .i64 a4_1, .int .i64 a4_2] 56 (0, 0))) := ⟨h2_⟩
               have n3_ : Aside0 (Below w.heap.size w w33) := ⟨h3_⟩
               clear BK898
               clear HB
               clear h0_ h1_ h2_ h3_
               have HO903 := n0_
               have HO906 := n1_
               have BK898 := n2_
               have HB := n3_
               clear n0_ n1_ n2_ n3_
               have hHeld : w33.cell? ⟨gb898, 0, none⟩ = some (.int .i64 a4_0) ∧ w33.cell? ⟨gb898, 1, none⟩ = some (.int .i64 a4_1) ∧ w33.cell? ⟨gb898, 2, none⟩ = some (.int .i64 a4_2) := hS_
               obtain ⟨Ao34, co34, eo34⟩ := Kd.R_slice HO903.out
               (first | subst eo34 | (injection eo34 with f1_ f2_ f3_; have f4_ := f1_.symm; have f5_ := f3_.symm; clear f1_ f2_ f3_; subst f4_; subst f5_))
               obtain ⟨Ao35, co35, eo35⟩ := Kd.S_slice HO906.out
               (first | subst eo35 | (injection eo35 with f1_ f2_ f3_; have f4_ := f1_.symm; have f5_ := f3_.symm; clear f1_ f2_ f3_; subst f4_; subst f5_))
               refine norm_ (a' := ?_) ?_ ?_
               rotate_left
               · simp only [putAll, Act.put, List.setIfInBounds_toArray, List.set_cons_zero, List.set_cons_succ]
                 rfl
               refine two_ (i := 8) (j := 12) (Ni := some 40) (Nj := some 12) (bitsA 15 511) (bitsA 15 4351) rfl rfl rfl rfl (two_of HT_.out (by kernel_rfl)) (by decide) (by decide) (fun K hK => ?_) (fun K hK => ?_)
               · skip
                 refine goes_ Try.func52 (by kernel_rfl) rfl #[.slice Ao34 t901.length co34, .slice Ao35 t904.length co35, .string a2, .int .i64 a3, .agg #[.int .i64 t907, .int .i64 t908, .int .i64 t909]] (by rfl) rfl rfl mt ?_
                 with_reducible refine (spec_TallyOf.calls k _ _ t901 _ _ t904 a2 a3 t907 t908 t909 t910 t911 t912 t913 t914 _ ?side1 ?side2 ?side3 ?side4 A20.out).mono ?_
                 (case side1 => repeat (first | exact (Kd.R_reads' HO903.out).2.2 | (with_reducible refine Kd.C_alloc ?_ _) | (with_reducible refine Kd.C_drewN ?_ _) | (with_reducible refine Kd.C_drew ?_)))
                 (case side2 => exact (Kd.R_reads' HO903.out).2.1)
                 (case side3 => repeat (first | exact (Kd.S_reads' HO906.out).2.2 | (with_reducible refine Kd.C_alloc ?_ _) | (with_reducible refine Kd.C_drewN ?_ _) | (with_reducible refine Kd.C_drew ?_)))
                 (case side4 => exact (Kd.S_reads' HO906.out).2.1)
                 rintro e w36 ⟨rfl, hb⟩
                 refine ⟨_, rfl, ?_⟩
                 replace HO903 := ak (Kd.R_below (kr HO903) hb)
                 replace HO906 := ak (Kd.S_below (ks HO906) hb)
                 replace BK898 := bb BK898 hb
                 replace HB := ak (below_step (bl1 GE898) hb)
                 (try clear hb)
                 (try clear hb2)
                 (try clear hk)
                 (try clear hi)
                 refine hK.out _ _ ⟨bc BK898 0, bc BK898 1, bc BK898 2⟩ (fun hHeld => ?_)
                 clear hK K
                 refine nm ?_
                 refine pu 9 (some 31) (bitsA 15 1023) ?_
                 refine pu 10 (some 41) (bitsA 15 2047) ?_
                 refine pu 11 (some 42) (bitsA 15 4095) ?_
                 exact norm_ (by first | (simp only [putAll, Act.put, List.setIfInBounds_toArray, List.set_cons_zero, List.set_cons_succ]; done) | (simp only [putAll, Act.put, List.setIfInBounds_toArray, List.set_cons_zero, List.set_cons_succ]; rfl)) (hJ1_3_7_8 (.slice Ao34 t901.length co34, .slice Ao35 t904.length co35) _ ⟨hHeld, (kr HO903), (ks HO906), (bk BK898), (bl1 GE898)⟩)
               · skip
                 refine box_step ?hg (N := 12) ?hd (cs := #[.int .i64 0, .int .i64 0, .int .i64 0, .int .i64 0]) (t := 83) ?hr ?_; (case hd => rfl); (case hg => rfl); (case hr => first | (go_simp; done) | (go_simp; rfl))
                 intro gb915 hg w34 hbox hb
                 replace HO903 := ak (Kd.R_below (kr HO903) hb)
                 replace HO906 := ak (Kd.S_below (ks HO906) hb)
                 have BK915 := ak hbox
                 have GW915 := gs hg (bl1 GE898)
                 have GE915 := gs hg (bl1 GE898)
                 replace HB := ak (below_step (bl1 GE898) hb)
                 have NB898_915 := nl hg BK898
                 have NB915_898 := ng hg BK898
                 replace BK898 := bb BK898 hb
                 clear hb hbox hg
                 refine hK.out _ _ ⟨bc BK898 0, bc BK898 1, bc BK898 2⟩ (fun hHeld => ?_)
                 clear hK K
                 refine nm ?_
                 exact norm_ (by first | (simp only [putAll, Act.put, List.setIfInBounds_toArray, List.set_cons_zero, List.set_cons_succ]; done) | (simp only [putAll, Act.put, List.setIfInBounds_toArray, List.set_cons_zero, List.set_cons_succ]; rfl)) (hJ1_3_7_12 (.slice Ao34 t901.length co34, .slice Ao35 t904.length co35, gb915) _ ⟨hHeld, (kr HO903), (ks HO906), (bk BK898), (bk BK915), GW915.out, GE915.out, NB898_915.out, NB915_898.out, (bl2 GE898 GE915)⟩)
           · skip
             rintro ⟨v902, v905, gb915⟩ w34 ⟨hS_, h0_, h1_, h2_, h3_, h4_, h5_, h6_, h7_, h8_⟩
             have n0_ : Aside0 (Kd.R k147 147 w34 w.heap.size (fun _ => True) v902 t901) := ⟨h0_⟩
             have n1_ : Aside0 (Kd.S k81 81 w34 w.heap.size (fun _ => True) v905 t904) := ⟨h1_⟩
             have n2_ : Aside0 (w34.heap[gb898]? = some (.cells #[.int .i64 a4_0, .int .i64 a4_1, .int .i64 a4_2] 56 (0, 0))) := ⟨h2_⟩
             have n3_ : Aside0 (w34.heap[gb915]? = some (.cells #[.int .i64 0, .int .i64 0, .int .i64 0, .int .i64 0] 83 (0, 0))) := ⟨h3_⟩
             have n4_ : Aside0 (w.heap.size ≤ gb915) := ⟨h4_⟩
             have n5_ : Aside0 (w.heap.size ≤ gb915) := ⟨h5_⟩
             have n6_ : Aside0 (gb898 ≠ gb915) := ⟨h6_⟩
             have n7_ : Aside0 (gb915 ≠ gb898) := ⟨h7_⟩
             have n8_ : Aside0 (Below w.heap.size w w34) := ⟨h8_⟩
             clear BK898
             clear HB
             clear h0_ h1_ h2_ h3_ h4_ h5_ h6_ h7_ h8_
             have HO903 := n0_
             have HO906 := n1_
             have BK898 := n2_
             have BK915 := n3_
             have GW915 := n4_
             have GE915 := n5_
             have NB898_915 := n6_
             have NB915_898 := n7_
             have HB := n8_
             clear n0_ n1_ n2_ n3_ n4_ n5_ n6_ n7_ n8_
             have hHeld : w34.cell? ⟨gb898, 0, none⟩ = some (.int .i64 a4_0) ∧ w34.cell? ⟨gb898, 1, none⟩ = some (.int .i64 a4_1) ∧ w34.cell? ⟨gb898, 2, none⟩ = some (.int .i64 a4_2) := hS_
             obtain ⟨Ao35, co35, eo35⟩ := Kd.R_slice HO903.out
             (first | subst eo35 | (injection eo35 with f1_ f2_ f3_; have f4_ := f1_.symm; have f5_ := f3_.symm; clear f1_ f2_ f3_; subst f4_; subst f5_))
             obtain ⟨Ao36, co36, eo36⟩ := Kd.S_slice HO906.out
             (first | subst eo36 | (injection eo36 with f1_ f2_ f3_; have f4_ := f1_.symm; have f5_ := f3_.symm; clear f1_ f2_ f3_; subst f4_; subst f5_))
             refine norm_ (a' := ?_) ?_ ?_
             rotate_left
             · simp only [putAll, Act.put, List.setIfInBounds_toArray, List.set_cons_zero, List.set_cons_succ]
               rfl
             refine one_ (i := 8) (N := some 40) (bitsA 15 4607) rfl rfl (one_of HT_.out (by kernel_rfl)) (by decide) (fun K hK => ?_)
             refine goes_ Try.func52 (by kernel_rfl) rfl #[.slice Ao35 t901.length co35, .slice Ao36 t904.length co36, .string a2, .int .i64 a3, .agg #[.int .i64 t907, .int .i64 t908, .int .i64 t909]] (by rfl) rfl rfl mt ?_
             with_reducible refine (spec_TallyOf.calls k _ _ t901 _ _ t904 a2 a3 t907 t908 t909 t910 t911 t912 t913 t914 _ ?side1 ?side2 ?side3 ?side4 A20.out).mono ?_
             (case side1 => repeat (first | exact (Kd.R_reads' HO903.out).2.2 | (with_reducible refine Kd.C_alloc ?_ _) | (with_reducible refine Kd.C_drewN ?_ _) | (with_reducible refine Kd.C_drew ?_)))
             (case side2 => exact (Kd.R_reads' HO903.out).2.1)
             (case side3 => repeat (first | exact (Kd.S_reads' HO906.out).2.2 | (with_reducible refine Kd.C_alloc ?_ _) | (with_reducible refine Kd.C_drewN ?_ _) | (with_reducible refine Kd.C_drew ?_)))
             (case side4 => exact (Kd.S_reads' HO906.out).2.1)
             rintro e w37 ⟨rfl, hb⟩
             refine ⟨_, rfl, ?_⟩
             replace HO903 := ak (Kd.R_below (kr HO903) hb)
             replace HO906 := ak (Kd.S_below (ks HO906) hb)
             replace BK898 := bb BK898 hb
             replace BK915 := bb BK915 hb
             replace HB := ak (below_step (bl2 GE898 GE915) hb)
             (try clear hb)
             (try clear hb2)
             (try clear hk)
             (try clear hi)
             refine hK.out _ _ ⟨bc BK898 0, bc BK898 1, bc BK898 2⟩ (fun hHeld => ?_)
             clear hK K
             refine nm ?_
             refine pu 9 (some 31) (bitsA 15 5119) ?_
             refine pu 10 (some 41) (bitsA 15 6143) ?_
             refine pu 11 (some 42) (bitsA 15 8191) ?_
             exact norm_ (by first | (simp only [putAll, Act.put, List.setIfInBounds_toArray, List.set_cons_zero, List.set_cons_succ]; done) | (simp only [putAll, Act.put, List.setIfInBounds_toArray, List.set_cons_zero, List.set_cons_succ]; rfl)) (hJ1_3_7_8_12 (.slice Ao35 t901.length co35, .slice Ao36 t904.length co36, gb915) _ ⟨hHeld, (kr HO903), (ks HO906), (bk BK898), (bk BK915), GW915.out, GE915.out, NB898_915.out, NB915_898.out, (bl2 GE898 GE915)⟩)
         · skip
           rintro ⟨v902, v905⟩ w36 ⟨hS_, h0_, h1_, h2_, h3_⟩
           have n0_ : Aside0 (Kd.R k147 147 w36 w.heap.size (fun _ => True) v902 t901) := ⟨h0_⟩
           have n1_ : Aside0 (Kd.S k81 81 w36 w.heap.size (fun _ => True) v905 t904) := ⟨h1_⟩
           have n2_ : Aside0 (w36.heap[gb898]? = some (.cells #[.int .i64 a4_0, .int .i64 a4_1, .int .i64 a4_2] 56 (0, 0))) := ⟨h2_⟩
           have n3_ : Aside0 (Below w.heap.size w w36) := ⟨h3_⟩
           clear BK898
           clear HB
           clear h0_ h1_ h2_ h3_
           have HO903 := n0_
           have HO906 := n1_
           have BK898 := n2_
           have HB := n3_
           clear n0_ n1_ n2_ n3_
           have hHeld : w36.cell? ⟨gb898, 0, none⟩ = some (.int .i64 a4_0) ∧ w36.cell? ⟨gb898, 1, none⟩ = some (.int .i64 a4_1) ∧ w36.cell? ⟨gb898, 2, none⟩ = some (.int .i64 a4_2) := hS_
           refine norm_ (a' := ?_) ?_ ?_
           rotate_left
           · simp only [putAll, Act.put, List.setIfInBounds_toArray, List.set_cons_zero, List.set_cons_succ]
             rfl
           refine one_ (i := 12) (N := some 12) (bitsA 15 8191) rfl rfl (one_of HT_.out (by kernel_rfl)) (by decide) (fun K hK => ?_)
           refine box_step ?hg (N := 12) ?hd (cs := #[.int .i64 0, .int .i64 0, .int .i64 0, .int .i64 0]) (t := 83) ?hr ?_; (case hd => rfl); (case hg => rfl); (case hr => first | (go_simp; done) | (go_simp; rfl))
           intro gb915 hg w37 hbox hb
           replace HO903 := ak (Kd.R_below (kr HO903) hb)
           replace HO906 := ak (Kd.S_below (ks HO906) hb)
           have BK915 := ak hbox
           have GW915 := gs hg (bl1 GE898)
           have GE915 := gs hg (bl1 GE898)
           replace HB := ak (below_step (bl1 GE898) hb)
           have NB898_915 := nl hg BK898
           have NB915_898 := ng hg BK898
           replace BK898 := bb BK898 hb
           clear hb hbox hg
           refine hK.out _ _ ⟨bc BK898 0, bc BK898 1, bc BK898 2⟩ (fun hHeld => ?_)
           clear hK K
           refine nm ?_
           exact norm_ (by first | (simp only [putAll, Act.put, List.setIfInBounds_toArray, List.set_cons_zero, List.set_cons_succ]; done) | (simp only [putAll, Act.put, List.setIfInBounds_toArray, List.set_cons_zero, List.set_cons_succ]; rfl)) (hJ1_3_7_8_12 (v902, v905, gb915) _ ⟨hHeld, (kr HO903), (ks HO906), (bk BK898), (bk BK915), GW915.out, GE915.out, NB898_915.out, NB915_898.out, (bl2 GE898 GE915)⟩)
       rintro ⟨v902, v905, gb915⟩ w37 ⟨hS_, h0_, h1_, h2_, h3_, h4_, h5_, h6_, h7_, h8_⟩
       have n0_ : Aside0 (Kd.R k147 147 w37 w.heap.size (fun _ => True) v902 t901) := ⟨h0_⟩
       have n1_ : Aside0 (Kd.S k81 81 w37 w.heap.size (fun _ => True) v905 t904) := ⟨h1_⟩
       have n2_ : Aside0 (w37.heap[gb898]? = some (.cells #[.int .i64 a4_0, .int .i64 a4_1, .int .i64 a4_2] 56 (0, 0))) := ⟨h2_⟩
       have n3_ : Aside0 (w37.heap[gb915]? = some (.cells #[.int .i64 0, .int .i64 0, .int .i64 0, .int .i64 0] 83 (0, 0))) := ⟨h3_⟩
       have n4_ : Aside0 (w.heap.size ≤ gb915) := ⟨h4_⟩
       have n5_ : Aside0 (w.heap.size ≤ gb915) := ⟨h5_⟩
       have n6_ : Aside0 (gb898 ≠ gb915) := ⟨h6_⟩
       have n7_ : Aside0 (gb915 ≠ gb898) := ⟨h7_⟩
       have n8_ : Aside0 (Below w.heap.size w w37) := ⟨h8_⟩
       clear BK898
       clear HB
       clear h0_ h1_ h2_ h3_ h4_ h5_ h6_ h7_ h8_
       have HO903 := n0_
       have HO906 := n1_
       have BK898 := n2_
       have BK915 := n3_
       have GW915 := n4_
       have GE915 := n5_
       have NB898_915 := n6_
       have NB915_898 := n7_
       have HB := n8_
       clear n0_ n1_ n2_ n3_ n4_ n5_ n6_ n7_ n8_
       have hHeld : w37.cell? ⟨gb898, 0, none⟩ = some (.int .i64 a4_0) ∧ w37.cell? ⟨gb898, 1, none⟩ = some (.int .i64 a4_1) ∧ w37.cell? ⟨gb898, 2, none⟩ = some (.int .i64 a4_2) := hS_
       refine norm_ (a' := ?_) ?_ ?_
       rotate_left
       · simp only [putAll, Act.put, List.setIfInBounds_toArray, List.set_cons_zero, List.set_cons_succ]
         rfl
       refine one_ (i := 13) (N := none) (bitsA 15 16383) rfl rfl (one_of HT_.out (by kernel_rfl)) (by decide) (fun K hK => ?_)
       have hs38 : w37.cell? ⟨gb915, 0, none⟩ = some (.int .i64 0) := bc BK915 0
       have hfs38 := blk_frozen BK915.out 0
       have hns38_0 := NB898_915.out
       have hms38_0 := NB915_898.out
       have hs39 : w37.cell? ⟨gb915, 1, none⟩ = some (.int .i64 0) := bc BK915 1
       have hfs39 := blk_frozen BK915.out 1
       have hns39_0 := NB898_915.out
       have hms39_0 := NB915_898.out
       have hs40 : w37.cell? ⟨gb915, 2, none⟩ = some (.int .i64 0) := bc BK915 2
       have hfs40 := blk_frozen BK915.out 2
       have hns40_0 := NB898_915.out
       have hms40_0 := NB915_898.out
       have hs41 : w37.cell? ⟨gb915, 3, none⟩ = some (.int .i64 0) := bc BK915 3
       have hfs41 := blk_frozen BK915.out 3
       have hns41_0 := NB898_915.out
       have hms41_0 := NB915_898.out
       refine skip_ (w1 := ?_) (by rfl) rfl ?_ ?_
       rotate_left
       · go_simp
         rfl
       refine hK.out _ _ ⟨((cell_far (p := ⟨gb915, _, none⟩) NB898_915.out _).trans (((cell_far (p := ⟨gb915, _, none⟩) NB898_915.out _).trans (((cell_far (p := ⟨gb915, _, none⟩) NB898_915.out _).trans (((cell_far (p := ⟨gb915, _, none⟩) NB898_915.out _).trans (hHeld.1)))))))), ((cell_far (p := ⟨gb915, _, none⟩) NB898_915.out _).trans (((cell_far (p := ⟨gb915, _, none⟩) NB898_915.out _).trans (((cell_far (p := ⟨gb915, _, none⟩) NB898_915.out _).trans (((cell_far (p := ⟨gb915, _, none⟩) NB898_915.out _).trans (hHeld.2.1)))))))), ((cell_far (p := ⟨gb915, _, none⟩) NB898_915.out _).trans (((cell_far (p := ⟨gb915, _, none⟩) NB898_915.out _).trans (((cell_far (p := ⟨gb915, _, none⟩) NB898_915.out _).trans (((cell_far (p := ⟨gb915, _, none⟩) NB898_915.out _).trans (hHeld.2.2))))))))⟩ (fun hHeld => ?_)
       clear hK K
       refine pu 14 (some 13) (bitsA 15 32767) ?_
       refine done_ (done_of HT_.out (by kernel_rfl)) ?_
       go_upto_region 14 with (first | ((with_reducible refine gate_callee (f := 34) rfl ?_); refine gl (some 44) Try.func34 #[.slice A0 l0.length c0] ?_; (with_reducible refine (laws_toPodS.calls k _ _ l0 t916 _ ?side1 ?side2 A21.out).mono ?_); (case side1 => exact Kd.C_below HR0.out (bl2 GE898 GE915)); (case side2 => exact HC0.out); rintro e w42 ⟨v917, rfl, ho0, hb⟩; refine ⟨_, rfl, ?_⟩; replace HO906 := ak (Kd.S_below (by (with_reducible repeat (first | apply Kd.S_alloc | apply Kd.S_drewN | apply Kd.S_drew)); exact (Kd.S_mono (Kd.S_far (p := ⟨gb915, 3, none⟩) (Kd.S_far (p := ⟨gb915, 2, none⟩) (Kd.S_far (p := ⟨gb915, 1, none⟩) (Kd.S_far (p := ⟨gb915, 0, none⟩) (Kd.S_types HO906.out BK915.out (by decide)) (fun _ hk => hk.2) (.int .i64 t910)) (fun _ hk => hk.2) (.int .i64 t911)) (fun _ hk => hk.2) (.int .i64 t912)) (fun _ hk => hk.2) (.int .i64 t913)) (fun _ h_ => h_.1))) hb); have HO918 := ak (Kd.R_lower (Kd.R_new' ho0 (Kd.R_lt (by (with_reducible repeat (first | apply Kd.R_alloc | apply Kd.R_drewN | apply Kd.R_drew)); exact (Kd.R_mono (Kd.R_far (p := ⟨gb915, 3, none⟩) (Kd.R_far (p := ⟨gb915, 2, none⟩) (Kd.R_far (p := ⟨gb915, 1, none⟩) (Kd.R_far (p := ⟨gb915, 0, none⟩) (Kd.R_types HO903.out BK915.out (by decide)) (fun _ hk => hk.2) (.int .i64 t910)) (fun _ hk => hk.2) (.int .i64 t911)) (fun _ hk => hk.2) (.int .i64 t912)) (fun _ hk => hk.2) (.int .i64 t913)) (fun _ h_ => h_.1))))) (below_size (bl2 GE898 GE915))); replace HO903 := ak (Kd.R_elder' (by (with_reducible repeat (first | apply Kd.R_alloc | apply Kd.R_drewN | apply Kd.R_drew)); exact (Kd.R_mono (Kd.R_far (p := ⟨gb915, 3, none⟩) (Kd.R_far (p := ⟨gb915, 2, none⟩) (Kd.R_far (p := ⟨gb915, 1, none⟩) (Kd.R_far (p := ⟨gb915, 0, none⟩) (Kd.R_types HO903.out BK915.out (by decide)) (fun _ hk => hk.2) (.int .i64 t910)) (fun _ hk => hk.2) (.int .i64 t911)) (fun _ hk => hk.2) (.int .i64 t912)) (fun _ hk => hk.2) (.int .i64 t913)) (fun _ h_ => h_.1))) (Kd.R_base ho0) hb); replace BK898 := bf1 BK898 NB898_915 hb; replace BK915 := ak (blk_below (g := gb915) (o := .cells #[.int .i64 t910, .int .i64 t911, .int .i64 t912, .int .i64 t913] 83 (0, 0)) (by (with_reducible repeat (first | refine blk_drewN ?_ _ | refine blk_drew ?_ | refine blk_alloc ?_ _)); refine blk_put (cs := #[.int .i64 t910, .int .i64 t911, .int .i64 t912, .int .i64 0]) ?_ 3 _ rfl; (with_reducible repeat (first | refine blk_drewN ?_ _ | refine blk_drew ?_ | refine blk_alloc ?_ _)); refine blk_put (cs := #[.int .i64 t910, .int .i64 t911, .int .i64 0, .int .i64 0]) ?_ 2 _ rfl; (with_reducible repeat (first | refine blk_drewN ?_ _ | refine blk_drew ?_ | refine blk_alloc ?_ _)); refine blk_put (cs := #[.int .i64 t910, .int .i64 0, .int .i64 0, .int .i64 0]) ?_ 1 _ rfl; (with_reducible repeat (first | refine blk_drewN ?_ _ | refine blk_drew ?_ | refine blk_alloc ?_ _)); refine blk_put (cs := #[.int .i64 0, .int .i64 0, .int .i64 0, .int .i64 0]) ?_ 0 _ rfl; (with_reducible repeat (first | refine blk_drewN ?_ _ | refine blk_drew ?_ | refine blk_alloc ?_ _)); exact BK915.out) hb); replace HB := ak (below_step (bl2 GE898 GE915) hb); (try clear hb); (try clear hb2); (try clear hk); (try clear hi); (try clear ho0)) | ((with_reducible refine gate_callee (f := 23) rfl ?_); refine gl (some 46) Try.func23 #[.slice A1 l1.length c1] ?_; (with_reducible refine (laws_toSeriesS.calls k _ _ l1 t919 _ ?side1 ?side2 A22.out).mono ?_); (case side1 => exact cb HR1); (case side2 => exact HC1.out); rintro e w43 ⟨v920, rfl, ho0, hb⟩; refine ⟨_, rfl, ?_⟩; replace HO903 := ak (Kd.R_below (kr HO903) hb); replace HO918 := ak (Kd.R_below (kr HO918) hb); have HO921 := ak (Kd.S_lower (Kd.S_new' ho0 (Kd.S_lt (ks HO906))) (below_size (bl2 GE898 GE915))); replace HO906 := ak (Kd.S_elder' (ks HO906) (Kd.S_base ho0) hb); replace BK898 := bb BK898 hb; replace BK915 := bb BK915 hb; replace HB := ak (below_step (bl2 GE898 GE915) hb); (try clear hb); (try clear hb2); (try clear hk); (try clear hi); (try clear ho0); have hnb44 := NB898_915.out; have hnc44 := NB915_898.out; obtain ⟨hcz45_0, hcz45_1, hcz45_2, hfz45_0, hfz45_1, hfz45_2⟩ := cz3 BK898) | ((with_reducible refine gate_callee (f := 35) rfl ?_); refine gl (some 53) Try.func35 #[.agg #[.int .i64 a4_0, .int .i64 a4_1, .int .i64 a4_2]] ?_; (with_reducible refine (laws_toRules.calls a4_0 a4_1 a4_2 t922 t923 t924 _ A23.out).mono ?_); rintro e w46 ⟨rfl, hb⟩; refine ⟨_, rfl, ?_⟩; replace HO903 := ak (Kd.R_below (kr HO903) hb); replace HO906 := ak (Kd.S_below (ks HO906) hb); replace HO918 := ak (Kd.R_below (kr HO918) hb); replace HO921 := ak (Kd.S_below (ks HO921) hb); replace BK898 := bb BK898 hb; replace BK915 := bb BK915 hb; replace HB := ak (below_step (bl2 GE898 GE915) hb); (try clear hb); (try clear hb2); (try clear hk); (try clear hi); obtain ⟨Ao47, co47, eo47⟩ := Kd.R_slice HO918.out; subst eo47; obtain ⟨Ao48, co48, eo48⟩ := Kd.S_slice HO921.out; subst eo48) | ((with_reducible refine gate_callee (f := 53) rfl ?_); refine gl (some 54) Try.func53 #[.slice Ao47 t916.length co47, .slice Ao48 t919.length co48, .string a2, .int .i64 a3, .agg #[.int .i64 t922, .int .i64 t923, .int .i64 t924]] ?_; (with_reducible refine (impl_TallyOf.calls k _ _ t916 _ _ t919 a2 a3 t922 t923 t924 t925 t926 t927 t928 t929 _ ?side1 ?side2 ?side3 ?side4 A24.out).mono ?_); (case side1 => repeat (first | exact (Kd.R_reads' HO918.out).2.2 | (with_reducible refine Kd.C_alloc ?_ _) | (with_reducible refine Kd.C_drewN ?_ _) | (with_reducible refine Kd.C_drew ?_))); (case side2 => exact (Kd.R_reads' HO918.out).2.1); (case side3 => repeat (first | exact (Kd.S_reads' HO921.out).2.2 | (with_reducible refine Kd.C_alloc ?_ _) | (with_reducible refine Kd.C_drewN ?_ _) | (with_reducible refine Kd.C_drew ?_))); (case side4 => exact (Kd.S_reads' HO921.out).2.1); rintro e w49 ⟨rfl, hb⟩; refine ⟨_, rfl, ?_⟩; replace HO903 := ak (Kd.R_below (kr HO903) hb); replace HO906 := ak (Kd.S_below (ks HO906) hb); replace HO918 := ak (Kd.R_below (kr HO918) hb); replace HO921 := ak (Kd.S_below (ks HO921) hb); replace BK898 := bb BK898 hb; replace BK915 := bb BK915 hb; replace HB := ak (below_step (bl2 GE898 GE915) hb); (try clear hb); (try clear hb2); (try clear hk); (try clear hi)) | ((with_reducible refine gate_dst (N := 16) rfl ?_); refine bx 16 #[.int .i64 0, .int .i64 0, .int .i64 0, .int .i64 0] 83 ?_; intro gb930 hg w50 hbox hb; replace HO903 := ak (Kd.R_below (kr HO903) hb); replace HO906 := ak (Kd.S_below (ks HO906) hb); replace HO918 := ak (Kd.R_below (kr HO918) hb); replace HO921 := ak (Kd.S_below (ks HO921) hb); have BK930 := ak hbox; have GW930 := gs hg (bl2 GE898 GE915); have GE930 := gs hg (bl2 GE898 GE915); replace HB := ak (below_step (bl2 GE898 GE915) hb); have NB898_930 := nl hg BK898; have NB930_898 := ng hg BK898; replace BK898 := bb BK898 hb; have NB915_930 := nl hg BK915; have NB930_915 := ng hg BK915; replace BK915 := bb BK915 hb; clear hb hbox hg; have hnb51 := NB930_898.out; have hnc51 := NB898_930.out; have hnb52 := NB930_915.out; have hnc52 := NB915_930.out; obtain ⟨hcz53_0, hcz53_1, hcz53_2, hcz53_3, hfz53_0, hfz53_1, hfz53_2, hfz53_3⟩ := cz4 BK930))
       (try simp only [Act.put, List.setIfInBounds_toArray, List.set_cons_zero, List.set_cons_succ])
       go_cut [65] (fun v65 wc => ∃ (kq : Nat) (x65_24 : Bool), v65 = .bool x65_24 ∧ Aside0 (laws_FnExactTallyOf.j0 kq l0 l1 t916 t919 x65_24 = some r) ∧ Aside0 (kq ≤ k) ∧ Aside0 (Kd.R k147 147 wc w.heap.size (fun _ => True) (.slice Ao47 t916.length co47) t916) ∧ Aside0 (Kd.S k81 81 wc w.heap.size (fun _ => True) (.slice Ao48 t919.length co48) t919) ∧ Aside0 (wc.heap[gb898]? = some (.cells #[.int .i64 a4_0, .int .i64 a4_1, .int .i64 a4_2] 56 (0, 0))) ∧ Aside0 (wc.heap[gb915]? = some (.cells #[.int .i64 t910, .int .i64 t911, .int .i64 t912, .int .i64 t913] 83 (0, 0))) ∧ Aside0 (wc.heap[gb930]? = some (.cells #[.int .i64 t925, .int .i64 t926, .int .i64 t927, .int .i64 t928] 83 (0, 0))) ∧ Aside0 (Below w.heap.size w wc))
       case first =>
        have H := HC25.out
        clear HC25
        obtain ⟨t931, A540, H⟩ := bo H
        have A54 := Aside0.mk A540
        clear A540
        by_cases c55 : t931 = true
        · subst c55
          replace H := iT H
          have H' := Aside0.mk H
          clear H
          have hnb56 := NB930_898.out
          have hnc56 := NB898_930.out
          have hnb57 := NB930_915.out
          have hnc57 := NB915_930.out
          obtain ⟨hcz58_0, hcz58_1, hcz58_2, hcz58_3, hfz58_0, hfz58_1, hfz58_2, hfz58_3⟩ := cz4 BK930
          have hnb59 := NB915_898.out
          have hnc59 := NB898_915.out
          obtain ⟨hcz60_0, hcz60_1, hcz60_2, hcz60_3, hfz60_0, hfz60_1, hfz60_2, hfz60_3⟩ := cz4 BK915
          go_wp2_with (first | ((with_reducible refine gate_callee (f := 54) rfl ?_); refine gl (some 59) Try.func54 #[.agg #[.int .i64 t925, .int .i64 t926, .int .i64 t927, .int .i64 t928], .agg #[.int .i64 t910, .int .i64 t911, .int .i64 t912, .int .i64 t913]] ?_; (with_reducible refine (laws_eqTally.calls t925 t926 t927 t928 t910 t911 t912 t913 true _ A54.out).mono ?_); rintro e w61 ⟨rfl, hb⟩; refine ⟨_, rfl, ?_⟩; replace HO903 := ak (Kd.R_below (by (with_reducible repeat (first | apply Kd.R_alloc | apply Kd.R_drewN | apply Kd.R_drew)); exact (Kd.R_mono (Kd.R_far (p := ⟨gb930, 3, none⟩) (Kd.R_far (p := ⟨gb930, 2, none⟩) (Kd.R_far (p := ⟨gb930, 1, none⟩) (Kd.R_far (p := ⟨gb930, 0, none⟩) (Kd.R_types HO903.out BK930.out (by decide)) (fun _ hk => hk.2) (.int .i64 t925)) (fun _ hk => hk.2) (.int .i64 t926)) (fun _ hk => hk.2) (.int .i64 t927)) (fun _ hk => hk.2) (.int .i64 t928)) (fun _ h_ => h_.1))) hb); replace HO906 := ak (Kd.S_below (by (with_reducible repeat (first | apply Kd.S_alloc | apply Kd.S_drewN | apply Kd.S_drew)); exact (Kd.S_mono (Kd.S_far (p := ⟨gb930, 3, none⟩) (Kd.S_far (p := ⟨gb930, 2, none⟩) (Kd.S_far (p := ⟨gb930, 1, none⟩) (Kd.S_far (p := ⟨gb930, 0, none⟩) (Kd.S_types HO906.out BK930.out (by decide)) (fun _ hk => hk.2) (.int .i64 t925)) (fun _ hk => hk.2) (.int .i64 t926)) (fun _ hk => hk.2) (.int .i64 t927)) (fun _ hk => hk.2) (.int .i64 t928)) (fun _ h_ => h_.1))) hb); replace HO918 := ak (Kd.R_below (by (with_reducible repeat (first | apply Kd.R_alloc | apply Kd.R_drewN | apply Kd.R_drew)); exact (Kd.R_mono (Kd.R_far (p := ⟨gb930, 3, none⟩) (Kd.R_far (p := ⟨gb930, 2, none⟩) (Kd.R_far (p := ⟨gb930, 1, none⟩) (Kd.R_far (p := ⟨gb930, 0, none⟩) (Kd.R_types HO918.out BK930.out (by decide)) (fun _ hk => hk.2) (.int .i64 t925)) (fun _ hk => hk.2) (.int .i64 t926)) (fun _ hk => hk.2) (.int .i64 t927)) (fun _ hk => hk.2) (.int .i64 t928)) (fun _ h_ => h_.1))) hb); replace HO921 := ak (Kd.S_below (by (with_reducible repeat (first | apply Kd.S_alloc | apply Kd.S_drewN | apply Kd.S_drew)); exact (Kd.S_mono (Kd.S_far (p := ⟨gb930, 3, none⟩) (Kd.S_far (p := ⟨gb930, 2, none⟩) (Kd.S_far (p := ⟨gb930, 1, none⟩) (Kd.S_far (p := ⟨gb930, 0, none⟩) (Kd.S_types HO921.out BK930.out (by decide)) (fun _ hk => hk.2) (.int .i64 t925)) (fun _ hk => hk.2) (.int .i64 t926)) (fun _ hk => hk.2) (.int .i64 t927)) (fun _ hk => hk.2) (.int .i64 t928)) (fun _ h_ => h_.1))) hb); replace BK898 := bf1 BK898 NB898_930 hb; replace BK915 := bf1 BK915 NB915_930 hb; replace BK930 := ak (blk_below (g := gb930) (o := .cells #[.int .i64 t925, .int .i64 t926, .int .i64 t927, .int .i64 t928] 83 (0, 0)) (by (with_reducible repeat (first | refine blk_drewN ?_ _ | refine blk_drew ?_ | refine blk_alloc ?_ _)); refine blk_put (cs := #[.int .i64 t925, .int .i64 t926, .int .i64 t927, .int .i64 0]) ?_ 3 _ rfl; (with_reducible repeat (first | refine blk_drewN ?_ _ | refine blk_drew ?_ | refine blk_alloc ?_ _)); refine blk_put (cs := #[.int .i64 t925, .int .i64 t926, .int .i64 0, .int .i64 0]) ?_ 2 _ rfl; (with_reducible repeat (first | refine blk_drewN ?_ _ | refine blk_drew ?_ | refine blk_alloc ?_ _)); refine blk_put (cs := #[.int .i64 t925, .int .i64 0, .int .i64 0, .int .i64 0]) ?_ 1 _ rfl; (with_reducible repeat (first | refine blk_drewN ?_ _ | refine blk_drew ?_ | refine blk_alloc ?_ _)); refine blk_put (cs := #[.int .i64 0, .int .i64 0, .int .i64 0, .int .i64 0]) ?_ 0 _ rfl; (with_reducible repeat (first | refine blk_drewN ?_ _ | refine blk_drew ?_ | refine blk_alloc ?_ _)); exact BK930.out) hb); replace HB := ak (below_step (bl3 GE898 GE915 GE930) hb); (try clear hb); (try clear hb2); (try clear hk); (try clear hi)))
          go_meet
          case rel => exact ⟨_, ((t929 != t914)), es, H', ⟨by first | omega | exact Nat.le_refl _⟩, ⟨by (with_reducible repeat (first | apply Kd.R_alloc | apply Kd.R_drewN | apply Kd.R_drew)); exact Kd.R_mono HO918.out (fun _ hk => trivial)⟩, ⟨by (with_reducible repeat (first | apply Kd.S_alloc | apply Kd.S_drewN | apply Kd.S_drew)); exact Kd.S_mono HO921.out (fun _ hk => trivial)⟩, ⟨bk BK898⟩, ⟨bk BK915⟩, ⟨bk BK930⟩, ⟨bl3 GE898 GE915 GE930⟩⟩
        · replace c55 := Bool.eq_false_iff.mpr c55
          subst c55
          replace H := iF H
          have H' := Aside0.mk H
          clear H
          have hnb62 := NB930_898.out
          have hnc62 := NB898_930.out
          have hnb63 := NB930_915.out
          have hnc63 := NB915_930.out
          obtain ⟨hcz64_0, hcz64_1, hcz64_2, hcz64_3, hfz64_0, hfz64_1, hfz64_2, hfz64_3⟩ := cz4 BK930
          have hnb65 := NB915_898.out
          have hnc65 := NB898_915.out
          obtain ⟨hcz66_0, hcz66_1, hcz66_2, hcz66_3, hfz66_0, hfz66_1, hfz66_2, hfz66_3⟩ := cz4 BK915
          go_wp2_with (first | ((with_reducible refine gate_callee (f := 54) rfl ?_); refine gl (some 59) Try.func54 #[.agg #[.int .i64 t925, .int .i64 t926, .int .i64 t927, .int .i64 t928], .agg #[.int .i64 t910, .int .i64 t911, .int .i64 t912, .int .i64 t913]] ?_; (with_reducible refine (laws_eqTally.calls t925 t926 t927 t928 t910 t911 t912 t913 false _ A54.out).mono ?_); rintro e w67 ⟨rfl, hb⟩; refine ⟨_, rfl, ?_⟩; replace HO903 := ak (Kd.R_below (by (with_reducible repeat (first | apply Kd.R_alloc | apply Kd.R_drewN | apply Kd.R_drew)); exact (Kd.R_mono (Kd.R_far (p := ⟨gb930, 3, none⟩) (Kd.R_far (p := ⟨gb930, 2, none⟩) (Kd.R_far (p := ⟨gb930, 1, none⟩) (Kd.R_far (p := ⟨gb930, 0, none⟩) (Kd.R_types HO903.out BK930.out (by decide)) (fun _ hk => hk.2) (.int .i64 t925)) (fun _ hk => hk.2) (.int .i64 t926)) (fun _ hk => hk.2) (.int .i64 t927)) (fun _ hk => hk.2) (.int .i64 t928)) (fun _ h_ => h_.1))) hb); replace HO906 := ak (Kd.S_below (by (with_reducible repeat (first | apply Kd.S_alloc | apply Kd.S_drewN | apply Kd.S_drew)); exact (Kd.S_mono (Kd.S_far (p := ⟨gb930, 3, none⟩) (Kd.S_far (p := ⟨gb930, 2, none⟩) (Kd.S_far (p := ⟨gb930, 1, none⟩) (Kd.S_far (p := ⟨gb930, 0, none⟩) (Kd.S_types HO906.out BK930.out (by decide)) (fun _ hk => hk.2) (.int .i64 t925)) (fun _ hk => hk.2) (.int .i64 t926)) (fun _ hk => hk.2) (.int .i64 t927)) (fun _ hk => hk.2) (.int .i64 t928)) (fun _ h_ => h_.1))) hb); replace HO918 := ak (Kd.R_below (by (with_reducible repeat (first | apply Kd.R_alloc | apply Kd.R_drewN | apply Kd.R_drew)); exact (Kd.R_mono (Kd.R_far (p := ⟨gb930, 3, none⟩) (Kd.R_far (p := ⟨gb930, 2, none⟩) (Kd.R_far (p := ⟨gb930, 1, none⟩) (Kd.R_far (p := ⟨gb930, 0, none⟩) (Kd.R_types HO918.out BK930.out (by decide)) (fun _ hk => hk.2) (.int .i64 t925)) (fun _ hk => hk.2) (.int .i64 t926)) (fun _ hk => hk.2) (.int .i64 t927)) (fun _ hk => hk.2) (.int .i64 t928)) (fun _ h_ => h_.1))) hb); replace HO921 := ak (Kd.S_below (by (with_reducible repeat (first | apply Kd.S_alloc | apply Kd.S_drewN | apply Kd.S_drew)); exact (Kd.S_mono (Kd.S_far (p := ⟨gb930, 3, none⟩) (Kd.S_far (p := ⟨gb930, 2, none⟩) (Kd.S_far (p := ⟨gb930, 1, none⟩) (Kd.S_far (p := ⟨gb930, 0, none⟩) (Kd.S_types HO921.out BK930.out (by decide)) (fun _ hk => hk.2) (.int .i64 t925)) (fun _ hk => hk.2) (.int .i64 t926)) (fun _ hk => hk.2) (.int .i64 t927)) (fun _ hk => hk.2) (.int .i64 t928)) (fun _ h_ => h_.1))) hb); replace BK898 := bf1 BK898 NB898_930 hb; replace BK915 := bf1 BK915 NB915_930 hb; replace BK930 := ak (blk_below (g := gb930) (o := .cells #[.int .i64 t925, .int .i64 t926, .int .i64 t927, .int .i64 t928] 83 (0, 0)) (by (with_reducible repeat (first | refine blk_drewN ?_ _ | refine blk_drew ?_ | refine blk_alloc ?_ _)); refine blk_put (cs := #[.int .i64 t925, .int .i64 t926, .int .i64 t927, .int .i64 0]) ?_ 3 _ rfl; (with_reducible repeat (first | refine blk_drewN ?_ _ | refine blk_drew ?_ | refine blk_alloc ?_ _)); refine blk_put (cs := #[.int .i64 t925, .int .i64 t926, .int .i64 0, .int .i64 0]) ?_ 2 _ rfl; (with_reducible repeat (first | refine blk_drewN ?_ _ | refine blk_drew ?_ | refine blk_alloc ?_ _)); refine blk_put (cs := #[.int .i64 t925, .int .i64 0, .int .i64 0, .int .i64 0]) ?_ 1 _ rfl; (with_reducible repeat (first | refine blk_drewN ?_ _ | refine blk_drew ?_ | refine blk_alloc ?_ _)); refine blk_put (cs := #[.int .i64 0, .int .i64 0, .int .i64 0, .int .i64 0]) ?_ 0 _ rfl; (with_reducible repeat (first | refine blk_drewN ?_ _ | refine blk_drew ?_ | refine blk_alloc ?_ _)); exact BK930.out) hb); replace HB := ak (below_step (bl3 GE898 GE915 GE930) hb); (try clear hb); (try clear hb2); (try clear hk); (try clear hi)))
          go_meet
          case rel => exact ⟨_, (true), es, H', ⟨by first | omega | exact Nat.le_refl _⟩, ⟨by (with_reducible repeat (first | apply Kd.R_alloc | apply Kd.R_drewN | apply Kd.R_drew)); exact Kd.R_mono HO918.out (fun _ hk => trivial)⟩, ⟨by (with_reducible repeat (first | apply Kd.S_alloc | apply Kd.S_drewN | apply Kd.S_drew)); exact Kd.S_mono HO921.out (fun _ hk => trivial)⟩, ⟨bk BK898⟩, ⟨bk BK915⟩, ⟨bk BK930⟩, ⟨bl3 GE898 GE915 GE930⟩⟩
       case rest =>
        clear HC25
        try clear c1
        try clear c2
        try clear p2
        try clear c3
        try clear c4
        try clear c5
        try clear c6
        try clear c23
        try clear c34
        try clear c35
        try clear c44
        try clear c51
        try clear c52
        try clear c53
        try clear c54
        try clear c55
        try clear c56
        try clear c57
        try clear c59
        try clear c62
        try clear c63
        try clear c65
        try clear hcz45_0
        try clear hcz45_1
        try clear hcz45_2
        try clear hcz53_0
        try clear hcz53_1
        try clear hcz53_2
        try clear hcz53_3
        try clear hcz58_0
        try clear hcz58_1
        try clear hcz58_2
        try clear hcz58_3
        try clear hcz60_0
        try clear hcz60_1
        try clear hcz60_2
        try clear hcz60_3
        try clear hcz64_0
        try clear hcz64_1
        try clear hcz64_2
        try clear hcz64_3
        try clear hcz66_0
        try clear hcz66_1
        try clear hcz66_2
        try clear hcz66_3
        try clear hfz45_0
        try clear hfz45_1
        try clear hfz45_2
        try clear hfz53_0
        try clear hfz53_1
        try clear hfz53_2
        try clear hfz53_3
        try clear hfz58_0
        try clear hfz58_1
        try clear hfz58_2
        try clear hfz58_3
        try clear hfz60_0
        try clear hfz60_1
        try clear hfz60_2
        try clear hfz60_3
        try clear hfz64_0
        try clear hfz64_1
        try clear hfz64_2
        try clear hfz64_3
        try clear hfz66_0
        try clear hfz66_1
        try clear hfz66_2
        try clear hfz66_3
        obtain ⟨kq, x65_24, rfl, HA, HJ24, HO_14, HO_15, BK898, BK915, BK930, HB⟩ := hcut
        cases kq with
        | zero => exact absurd HA.out (by simp [laws_FnExactTallyOf.j0])
        | succ kj24 =>
         have H := HA.out
         clear HA
         simp only [laws_FnExactTallyOf.j0] at H
         by_cases c68 : x65_24 = true
         · subst c68
           replace H := iT H
           obtain rfl := Option.some.inj H
           go_wp2
           go_ret
           exact ⟨ew, bl3 GE898 GE915 GE930⟩
         · replace c68 := Bool.eq_false_iff.mpr c68
           subst c68
           replace H := iF H
           obtain ⟨t932, A690, H⟩ := bo H
           have A69 := Aside0.mk A690
           clear A690
           obtain ⟨t935, A700, H⟩ := bo H
           have A70 := Aside0.mk A700
           clear A700
           by_cases c71 : t935 = true
           · subst c71
             replace H := iT H
             obtain ⟨t936, A720, H⟩ := bo H
             have A72 := Aside0.mk A720
             clear A720
             obtain ⟨t939, A730, H⟩ := bo H
             have A73 := Aside0.mk A730
             clear A730
             by_cases c74 : t939 = true
             · subst c74
               replace H := iT H
               obtain rfl := Option.some.inj H
               go_wp2_with (first | ((with_reducible refine gate_callee (f := 34) rfl ?_); refine gl (some 68) Try.func34 #[.slice A0 l0.length c0] ?_; (with_reducible refine (laws_toPodS.calls kj24 _ _ l0 t932 _ ?side1 ?side2 A69.out).mono ?_); (case side1 => exact cb HR0); (case side2 => exact HC0.out); rintro e w75 ⟨v933, rfl, ho0, hb⟩; refine ⟨_, rfl, ?_⟩; replace HO_15 := ak (Kd.S_below (ks HO_15) hb); have HO934 := ak (Kd.R_lower (Kd.R_new' ho0 (Kd.R_lt (kr HO_14))) (below_size (bl3 GE898 GE915 GE930))); replace HO_14 := ak (Kd.R_elder' (kr HO_14) (Kd.R_base ho0) hb); replace BK898 := bb BK898 hb; replace BK915 := bb BK915 hb; replace BK930 := bb BK930 hb; replace HB := ak (below_step (bl3 GE898 GE915 GE930) hb); (try clear hb); (try clear hb2); (try clear hk); (try clear hi); (try clear ho0); obtain ⟨Ao76, co76, eo76⟩ := Kd.R_slice HO934.out; subst eo76) | ((with_reducible refine gate_callee (f := 38) rfl ?_); refine gl (some 69) Try.func38 #[.slice Ao47 t916.length co47, .slice Ao76 t932.length co76] ?_; (with_reducible refine (laws_eqPodS.calls kj24 _ _ t916 _ _ t932 true _ ?side1 ?side2 ?side3 ?side4 A70.out).mono ?_); (case side1 => repeat (first | exact (Kd.R_reads' HO_14.out).2.2 | (with_reducible refine Kd.C_alloc ?_ _) | (with_reducible refine Kd.C_drewN ?_ _) | (with_reducible refine Kd.C_drew ?_))); (case side2 => exact (Kd.R_reads' HO_14.out).2.1); (case side3 => repeat (first | exact (Kd.R_reads' HO934.out).2.2 | (with_reducible refine Kd.C_alloc ?_ _) | (with_reducible refine Kd.C_drewN ?_ _) | (with_reducible refine Kd.C_drew ?_))); (case side4 => exact (Kd.R_reads' HO934.out).2.1); rintro e w77 ⟨rfl, hb⟩; refine ⟨_, rfl, ?_⟩; replace HO_14 := ak (Kd.R_below (kr HO_14) hb); replace HO_15 := ak (Kd.S_below (ks HO_15) hb); replace HO934 := ak (Kd.R_below (kr HO934) hb); replace BK898 := bb BK898 hb; replace BK915 := bb BK915 hb; replace BK930 := bb BK930 hb; replace HB := ak (below_step (bl3 GE898 GE915 GE930) hb); (try clear hb); (try clear hb2); (try clear hk); (try clear hi)) | ((with_reducible refine gate_callee (f := 23) rfl ?_); refine gl (some 73) Try.func23 #[.slice A1 l1.length c1] ?_; (with_reducible refine (laws_toSeriesS.calls kj24 _ _ l1 t936 _ ?side1 ?side2 A72.out).mono ?_); (case side1 => exact cb HR1); (case side2 => exact HC1.out); rintro e w78 ⟨v937, rfl, ho0, hb⟩; refine ⟨_, rfl, ?_⟩; replace HO_14 := ak (Kd.R_below (kr HO_14) hb); replace HO934 := ak (Kd.R_below (kr HO934) hb); have HO938 := ak (Kd.S_lower (Kd.S_new' ho0 (Kd.S_lt (ks HO_15))) (below_size (bl3 GE898 GE915 GE930))); replace HO_15 := ak (Kd.S_elder' (ks HO_15) (Kd.S_base ho0) hb); replace BK898 := bb BK898 hb; replace BK915 := bb BK915 hb; replace BK930 := bb BK930 hb; replace HB := ak (below_step (bl3 GE898 GE915 GE930) hb); (try clear hb); (try clear hb2); (try clear hk); (try clear hi); (try clear ho0); obtain ⟨Ao79, co79, eo79⟩ := Kd.S_slice HO938.out; subst eo79) | ((with_reducible refine gate_callee (f := 24) rfl ?_); refine gl (some 74) Try.func24 #[.slice Ao48 t919.length co48, .slice Ao79 t936.length co79] ?_; (with_reducible refine (laws_eqSeriesS.calls kj24 _ _ t919 _ _ t936 true _ ?side1 ?side2 ?side3 ?side4 A73.out).mono ?_); (case side1 => repeat (first | exact (Kd.S_reads' HO_15.out).2.2 | (with_reducible refine Kd.C_alloc ?_ _) | (with_reducible refine Kd.C_drewN ?_ _) | (with_reducible refine Kd.C_drew ?_))); (case side2 => exact (Kd.S_reads' HO_15.out).2.1); (case side3 => repeat (first | exact (Kd.S_reads' HO938.out).2.2 | (with_reducible refine Kd.C_alloc ?_ _) | (with_reducible refine Kd.C_drewN ?_ _) | (with_reducible refine Kd.C_drew ?_))); (case side4 => exact (Kd.S_reads' HO938.out).2.1); rintro e w80 ⟨rfl, hb⟩; refine ⟨_, rfl, ?_⟩; replace HO_14 := ak (Kd.R_below (kr HO_14) hb); replace HO_15 := ak (Kd.S_below (ks HO_15) hb); replace HO934 := ak (Kd.R_below (kr HO934) hb); replace HO938 := ak (Kd.S_below (ks HO938) hb); replace BK898 := bb BK898 hb; replace BK915 := bb BK915 hb; replace BK930 := bb BK930 hb; replace HB := ak (below_step (bl3 GE898 GE915 GE930) hb); (try clear hb); (try clear hb2); (try clear hk); (try clear hi)))
               go_ret
               exact ⟨ew, bl3 GE898 GE915 GE930⟩
             · replace c74 := Bool.eq_false_iff.mpr c74
               subst c74
               replace H := iF H
               obtain rfl := Option.some.inj H
               go_wp2_with (first | ((with_reducible refine gate_callee (f := 34) rfl ?_); refine gl (some 68) Try.func34 #[.slice A0 l0.length c0] ?_; (with_reducible refine (laws_toPodS.calls kj24 _ _ l0 t932 _ ?side1 ?side2 A69.out).mono ?_); (case side1 => exact cb HR0); (case side2 => exact HC0.out); rintro e w81 ⟨v933, rfl, ho0, hb⟩; refine ⟨_, rfl, ?_⟩; replace HO_15 := ak (Kd.S_below (ks HO_15) hb); have HO934 := ak (Kd.R_lower (Kd.R_new' ho0 (Kd.R_lt (kr HO_14))) (below_size (bl3 GE898 GE915 GE930))); replace HO_14 := ak (Kd.R_elder' (kr HO_14) (Kd.R_base ho0) hb); replace BK898 := bb BK898 hb; replace BK915 := bb BK915 hb; replace BK930 := bb BK930 hb; replace HB := ak (below_step (bl3 GE898 GE915 GE930) hb); (try clear hb); (try clear hb2); (try clear hk); (try clear hi); (try clear ho0); obtain ⟨Ao82, co82, eo82⟩ := Kd.R_slice HO934.out; subst eo82) | ((with_reducible refine gate_callee (f := 38) rfl ?_); refine gl (some 69) Try.func38 #[.slice Ao47 t916.length co47, .slice Ao82 t932.length co82] ?_; (with_reducible refine (laws_eqPodS.calls kj24 _ _ t916 _ _ t932 true _ ?side1 ?side2 ?side3 ?side4 A70.out).mono ?_); (case side1 => repeat (first | exact (Kd.R_reads' HO_14.out).2.2 | (with_reducible refine Kd.C_alloc ?_ _) | (with_reducible refine Kd.C_drewN ?_ _) | (with_reducible refine Kd.C_drew ?_))); (case side2 => exact (Kd.R_reads' HO_14.out).2.1); (case side3 => repeat (first | exact (Kd.R_reads' HO934.out).2.2 | (with_reducible refine Kd.C_alloc ?_ _) | (with_reducible refine Kd.C_drewN ?_ _) | (with_reducible refine Kd.C_drew ?_))); (case side4 => exact (Kd.R_reads' HO934.out).2.1); rintro e w83 ⟨rfl, hb⟩; refine ⟨_, rfl, ?_⟩; replace HO_14 := ak (Kd.R_below (kr HO_14) hb); replace HO_15 := ak (Kd.S_below (ks HO_15) hb); replace HO934 := ak (Kd.R_below (kr HO934) hb); replace BK898 := bb BK898 hb; replace BK915 := bb BK915 hb; replace BK930 := bb BK930 hb; replace HB := ak (below_step (bl3 GE898 GE915 GE930) hb); (try clear hb); (try clear hb2); (try clear hk); (try clear hi)) | ((with_reducible refine gate_callee (f := 23) rfl ?_); refine gl (some 73) Try.func23 #[.slice A1 l1.length c1] ?_; (with_reducible refine (laws_toSeriesS.calls kj24 _ _ l1 t936 _ ?side1 ?side2 A72.out).mono ?_); (case side1 => exact cb HR1); (case side2 => exact HC1.out); rintro e w84 ⟨v937, rfl, ho0, hb⟩; refine ⟨_, rfl, ?_⟩; replace HO_14 := ak (Kd.R_below (kr HO_14) hb); replace HO934 := ak (Kd.R_below (kr HO934) hb); have HO938 := ak (Kd.S_lower (Kd.S_new' ho0 (Kd.S_lt (ks HO_15))) (below_size (bl3 GE898 GE915 GE930))); replace HO_15 := ak (Kd.S_elder' (ks HO_15) (Kd.S_base ho0) hb); replace BK898 := bb BK898 hb; replace BK915 := bb BK915 hb; replace BK930 := bb BK930 hb; replace HB := ak (below_step (bl3 GE898 GE915 GE930) hb); (try clear hb); (try clear hb2); (try clear hk); (try clear hi); (try clear ho0); obtain ⟨Ao85, co85, eo85⟩ := Kd.S_slice HO938.out; subst eo85) | ((with_reducible refine gate_callee (f := 24) rfl ?_); refine gl (some 74) Try.func24 #[.slice Ao48 t919.length co48, .slice Ao85 t936.length co85] ?_; (with_reducible refine (laws_eqSeriesS.calls kj24 _ _ t919 _ _ t936 false _ ?side1 ?side2 ?side3 ?side4 A73.out).mono ?_); (case side1 => repeat (first | exact (Kd.S_reads' HO_15.out).2.2 | (with_reducible refine Kd.C_alloc ?_ _) | (with_reducible refine Kd.C_drewN ?_ _) | (with_reducible refine Kd.C_drew ?_))); (case side2 => exact (Kd.S_reads' HO_15.out).2.1); (case side3 => repeat (first | exact (Kd.S_reads' HO938.out).2.2 | (with_reducible refine Kd.C_alloc ?_ _) | (with_reducible refine Kd.C_drewN ?_ _) | (with_reducible refine Kd.C_drew ?_))); (case side4 => exact (Kd.S_reads' HO938.out).2.1); rintro e w86 ⟨rfl, hb⟩; refine ⟨_, rfl, ?_⟩; replace HO_14 := ak (Kd.R_below (kr HO_14) hb); replace HO_15 := ak (Kd.S_below (ks HO_15) hb); replace HO934 := ak (Kd.R_below (kr HO934) hb); replace HO938 := ak (Kd.S_below (ks HO938) hb); replace BK898 := bb BK898 hb; replace BK915 := bb BK915 hb; replace BK930 := bb BK930 hb; replace HB := ak (below_step (bl3 GE898 GE915 GE930) hb); (try clear hb); (try clear hb2); (try clear hk); (try clear hi)))
               go_ret
               exact ⟨ew, bl3 GE898 GE915 GE930⟩
           · replace c71 := Bool.eq_false_iff.mpr c71
             subst c71
             replace H := iF H
             obtain rfl := Option.some.inj H
             go_wp2_with (first | ((with_reducible refine gate_callee (f := 34) rfl ?_); refine gl (some 68) Try.func34 #[.slice A0 l0.length c0] ?_; (with_reducible refine (laws_toPodS.calls kj24 _ _ l0 t932 _ ?side1 ?side2 A69.out).mono ?_); (case side1 => exact cb HR0); (case side2 => exact HC0.out); rintro e w87 ⟨v933, rfl, ho0, hb⟩; refine ⟨_, rfl, ?_⟩; replace HO_15 := ak (Kd.S_below (ks HO_15) hb); have HO934 := ak (Kd.R_lower (Kd.R_new' ho0 (Kd.R_lt (kr HO_14))) (below_size (bl3 GE898 GE915 GE930))); replace HO_14 := ak (Kd.R_elder' (kr HO_14) (Kd.R_base ho0) hb); replace BK898 := bb BK898 hb; replace BK915 := bb BK915 hb; replace BK930 := bb BK930 hb; replace HB := ak (below_step (bl3 GE898 GE915 GE930) hb); (try clear hb); (try clear hb2); (try clear hk); (try clear hi); (try clear ho0); obtain ⟨Ao88, co88, eo88⟩ := Kd.R_slice HO934.out; subst eo88) | ((with_reducible refine gate_callee (f := 38) rfl ?_); refine gl (some 69) Try.func38 #[.slice Ao47 t916.length co47, .slice Ao88 t932.length co88] ?_; (with_reducible refine (laws_eqPodS.calls kj24 _ _ t916 _ _ t932 false _ ?side1 ?side2 ?side3 ?side4 A70.out).mono ?_); (case side1 => repeat (first | exact (Kd.R_reads' HO_14.out).2.2 | (with_reducible refine Kd.C_alloc ?_ _) | (with_reducible refine Kd.C_drewN ?_ _) | (with_reducible refine Kd.C_drew ?_))); (case side2 => exact (Kd.R_reads' HO_14.out).2.1); (case side3 => repeat (first | exact (Kd.R_reads' HO934.out).2.2 | (with_reducible refine Kd.C_alloc ?_ _) | (with_reducible refine Kd.C_drewN ?_ _) | (with_reducible refine Kd.C_drew ?_))); (case side4 => exact (Kd.R_reads' HO934.out).2.1); rintro e w89 ⟨rfl, hb⟩; refine ⟨_, rfl, ?_⟩; replace HO_14 := ak (Kd.R_below (kr HO_14) hb); replace HO_15 := ak (Kd.S_below (ks HO_15) hb); replace HO934 := ak (Kd.R_below (kr HO934) hb); replace BK898 := bb BK898 hb; replace BK915 := bb BK915 hb; replace BK930 := bb BK930 hb; replace HB := ak (below_step (bl3 GE898 GE915 GE930) hb); (try clear hb); (try clear hb2); (try clear hk); (try clear hi)))
             go_ret
             exact ⟨ew, bl3 GE898 GE915 GE930⟩

end Go.Proofs.Ytplekidnlofioaa.Q
namespace Go.Proofs.Ytplekidnlofioaa.Q
open Go.RowKit Go.Proofs.YtplekidnlofioaaW.PrintWords Go.Proofs.YtplekidnlofioaaW.PrintLast
theorem wrapn (n : Nat) (h : n < 4611686018427387904) : wrap64 ((n : Int) + 1) = ((n + 1 : Nat) : Int) := by unfold wrap64; omega
theorem lt_mid {α : Type} (pre suf : List α) (x : α) : (pre.length : Int) < ((pre ++ x :: suf).length : Int) := by simp; omega
theorem nn (n : Nat) : (0 : Int) ≤ (n : Int) := Int.natCast_nonneg n
theorem data_size (s : ByteArray) : s.size = s.data.toList.length := by rw [Array.length_toList]; rfl
theorem bt_mid {s : ByteArray} {pre suf : List UInt8} {b : UInt8} (h : s.data.toList = pre ++ b :: suf) : bt s (pre.length : Int) = (b.toNat : Int) := by
  have hl : pre.length < s.size := by rw [data_size, h]; simp
  have e : s[pre.length] = b := by
    have h1 : s.data.toList[pre.length]? = some b := by rw [h]; simp
    have h2 : s.data.toList[pre.length]? = some (s.data[pre.length]) := by rw [Array.getElem?_toList]; exact Array.getElem?_eq_getElem hl
    have h3 := h2.symm.trans h1
    exact Option.some.inj h3
  simp [bt, hl, e]
theorem toList_data (s : ByteArray) : s.toList = s.data.toList := Lib.toList_data s
def inB (x lo hi : Int) : Bool := decide (lo ≤ x) && decide (x ≤ hi)
theorem l01In_v (x lo hi : Int) : spec_l01In.f x lo hi = some (inB x lo hi) := by
  unfold spec_l01In.f inB
  by_cases h : lo ≤ x <;> simp [h]
theorem in_v (x lo hi : Int) : impl_in.f x lo hi = some (inB x lo hi) := by
  unfold impl_in.f inB
  by_cases h : lo ≤ x <;> simp [h]
def isNm (b : UInt8) : Bool := (decide (97 ≤ (b.toNat : Int)) && decide ((b.toNat : Int) ≤ 122)) || (decide (48 ≤ (b.toNat : Int)) && decide ((b.toNat : Int) ≤ 57))
def nameOk (s : ByteArray) : Bool := inB (s.size : Int) 1 12 && s.data.toList.all isNm
theorem spec_NameOk_l0_ev (s : ByteArray) (hs : s.size < 4611686018427387904) : ∀ suf pre, s.data.toList = pre ++ suf → Ev (fun k => spec_NameOk.l0 k s (pre.length : Int)) (suf.all isNm) := by
  intro suf
  induction suf with
  | nil =>
    intro pre h
    refine Ev.step (fun k => by rw [spec_NameOk.l0]) ?_
    have hlt : ¬ ((pre.length : Int) < (s.size : Int)) := by rw [data_size, h]; simp
    simp only [if_neg hlt]
    exact Ev.now _
  | cons b suf ih =>
    intro pre h
    refine Ev.step (fun k => by rw [spec_NameOk.l0]) ?_
    have hlt : ((pre.length : Int) < (s.size : Int)) := by rw [data_size, h]; exact lt_mid _ _ _
    have hl : pre.length < s.size := by omega
    have hw := wrapn pre.length (by omega)
    have hr := ih (pre ++ [b]) (by rw [h]; simp)
    rw [List.length_append, List.length_singleton] at hr
    simp only [if_pos hlt, if_pos (nn _), bt_mid h, hw]
    by_cases c1 : (b.toNat : Int) < 97 <;> by_cases c2 : (b.toNat : Int) > 122 <;> by_cases c3 : (b.toNat : Int) < 48 <;> by_cases c4 : (b.toNat : Int) > 57 <;> simp only [c1, c2, c3, c4, if_true, if_false, List.all_cons]
    all_goals first
      | (have e : isNm b = true := by (simp only [isNm, Bool.or_eq_true, Bool.and_eq_true, decide_eq_true_eq]; omega)
         rw [e, Bool.true_and]; exact hr)
      | (have e : isNm b = false := by (simp only [isNm, Bool.or_eq_false_iff, Bool.and_eq_false_iff, decide_eq_false_iff_not]; omega)
         rw [e, Bool.false_and]; exact Ev.now _)
theorem spec_NameOk_ev (s : ByteArray) : Ev (fun k => spec_NameOk.f k s) (nameOk s) := by
  unfold spec_NameOk.f nameOk
  simp only [l01In_v, Option.bind_some]
  cases h : inB (s.size : Int) 1 12 with
  | false => simp only [if_neg (show ¬ (false = true) by decide), Bool.false_and]; exact Ev.now _
  | true =>
    simp only [if_pos, Bool.true_and]
    have hs : s.size < 4611686018427387904 := by simp only [inB, Bool.and_eq_true, decide_eq_true_eq] at h; omega
    exact spec_NameOk_l0_ev s hs _ [] rfl
theorem impl_NameOk_l0_ev (s : ByteArray) (hs : s.size < 4611686018427387904) : ∀ suf pre, s.data.toList = pre ++ suf → Ev (fun k => impl_NameOk.l0 k s (s.size : Int) (pre.length : Int)) (suf.all isNm && inB (s.size : Int) 1 12) := by
  intro suf
  induction suf with
  | nil =>
    intro pre h
    refine Ev.step (fun k => by rw [impl_NameOk.l0]) ?_
    have hlt : ¬ ((pre.length : Int) < (s.size : Int)) := by rw [data_size, h]; simp
    simp only [if_neg hlt, in_v, Option.bind_some, List.all_nil, Bool.true_and]
    exact Ev.now _
  | cons b suf ih =>
    intro pre h
    refine Ev.step (fun k => by rw [impl_NameOk.l0]) ?_
    have hlt : ((pre.length : Int) < (s.size : Int)) := by rw [data_size, h]; exact lt_mid _ _ _
    have hl : pre.length < s.size := by omega
    have hw := wrapn pre.length (by omega)
    have hr := ih (pre ++ [b]) (by rw [h]; simp)
    rw [List.length_append, List.length_singleton] at hr
    simp only [if_pos hlt, if_pos (nn _), bt_mid h, hw]
    by_cases c1 : (b.toNat : Int) < 97 <;> by_cases c2 : (b.toNat : Int) > 122 <;> by_cases c3 : (b.toNat : Int) < 48 <;> by_cases c4 : (b.toNat : Int) > 57 <;> simp only [c1, c2, c3, c4, if_true, if_false, List.all_cons]
    all_goals first
      | (have e : isNm b = true := by (simp only [isNm, Bool.or_eq_true, Bool.and_eq_true, decide_eq_true_eq]; omega)
         rw [e, Bool.true_and]; exact hr)
      | (have e : isNm b = false := by (simp only [isNm, Bool.or_eq_false_iff, Bool.and_eq_false_iff, decide_eq_false_iff_not]; omega)
         rw [e, Bool.false_and, Bool.false_and]; exact Ev.now _)
theorem impl_NameOk_ev (s : ByteArray) (hs : s.size < 4611686018427387904) : Ev (fun k => impl_NameOk.f k s) (nameOk s) := by
  unfold impl_NameOk.f nameOk
  rw [Bool.and_comm]
  exact impl_NameOk_l0_ev s hs _ [] rfl
def lessB (a b : ByteArray) : Bool := Op.bytesLess a.toList b.toList
theorem spec_l02Less_l0_ev (s t : ByteArray) (hs : s.size < 4611686018427387904) : ∀ sa sb pa pb, pa.length = pb.length → s.data.toList = pa ++ sa → t.data.toList = pb ++ sb → Ev (fun k => spec_l02Less.l0 k s t (pa.length : Int)) (if sa.length = 0 ∨ sb.length = 0 then decide (s.size < t.size) else Op.bytesLess sa sb) := by
  intro sa
  induction sa with
  | nil =>
    intro sb pa pb hp h h'
    refine Ev.step (fun k => by rw [spec_l02Less.l0]) ?_
    have hlt : ¬ ((pa.length : Int) < (s.size : Int)) := by rw [data_size, h]; simp
    simp only [if_neg hlt]
    refine Ev.step (fun k => by rw [spec_l02Less.j1]) ?_
    simp only [if_neg (show ¬ (false = true) by decide), List.length_nil, true_or, if_true]
    rw [show decide ((s.size : Int) < (t.size : Int)) = decide (s.size < t.size) from by simp]
    exact Ev.now _
  | cons a sa ih =>
    intro sb pa pb hp h h'
    refine Ev.step (fun k => by rw [spec_l02Less.l0]) ?_
    have hlt : ((pa.length : Int) < (s.size : Int)) := by rw [data_size, h]; exact lt_mid _ _ _
    simp only [if_pos hlt]
    refine Ev.step (fun k => by rw [spec_l02Less.j1]) ?_
    cases sb with
    | nil =>
      have hlt2 : ¬ ((pa.length : Int) < (t.size : Int)) := by rw [data_size, h', hp]; simp
      simp only [hlt2, decide_false, if_neg (show ¬ (false = true) by decide), List.length_nil, or_true, if_true]
      rw [show decide ((s.size : Int) < (t.size : Int)) = decide (s.size < t.size) from by simp]
      exact Ev.now _
    | cons b sb =>
      have hlt2 : ((pa.length : Int) < (t.size : Int)) := by rw [data_size, h', hp]; exact lt_mid _ _ _
      have hl : pa.length < s.size := by omega
      have hw := wrapn pa.length (by omega)
      have hb2 : bt t (pa.length : Int) = (b.toNat : Int) := by rw [hp]; exact bt_mid h'
      simp only [hlt2, decide_true, if_true, if_pos (nn _), hlt, bt_mid h, hb2, hw]
      have hr := ih sb (pa ++ [a]) (pb ++ [b]) (by simp [hp]) (by rw [h]; simp) (by rw [h']; simp)
      rw [List.length_append, List.length_singleton] at hr
      by_cases c : (a.toNat : Int) = (b.toNat : Int)
      · obtain rfl : a = b := UInt8.toNat_inj.1 (by omega)
        simp only [if_true, List.length_cons]
        have e : Op.bytesLess (a :: sa) (a :: sb) = Op.bytesLess sa sb := by simp [Op.bytesLess, UInt8.lt_irrefl]
        rw [if_neg (by omega), e]
        by_cases d : sa.length = 0 ∨ sb.length = 0
        · rw [if_pos d] at hr
          have : Op.bytesLess sa sb = decide (s.size < t.size) := by
            have h1 : s.size = pa.length + 1 + sa.length := by rw [data_size, h]; simp; omega
            have h2 : t.size = pa.length + 1 + sb.length := by rw [data_size, h', hp]; simp; omega
            rw [h1, h2]
            cases sa with
            | nil => cases sb <;> simp [Op.bytesLess]
            | cons x xs =>
              cases sb with
              | nil => simp [Op.bytesLess]
              | cons y ys => simp at d
          rw [this]
          exact hr
        · rw [if_neg d] at hr
          exact hr
      · simp only [c, if_false, List.length_cons]
        rw [if_neg (by omega)]
        have e : Op.bytesLess (a :: sa) (b :: sb) = decide ((a.toNat : Int) < (b.toNat : Int)) := by
          have hne : ¬ (a = b) := fun h => c (by rw [h])
          simp [Op.bytesLess, hne, UInt8.lt_iff_toNat_lt]
        rw [e]
        exact Ev.now _
theorem spec_l02Less_ev (s t : ByteArray) (hs : s.size < 4611686018427387904) : Ev (fun k => spec_l02Less.f k s t) (lessB s t) := by
  unfold spec_l02Less.f lessB
  rw [toList_data, toList_data]
  have h := spec_l02Less_l0_ev s t hs s.data.toList t.data.toList [] [] rfl rfl rfl
  by_cases d : s.data.toList.length = 0 ∨ t.data.toList.length = 0
  · rw [if_pos d] at h
    have : Op.bytesLess s.data.toList t.data.toList = decide (s.size < t.size) := by
      rw [data_size, data_size]
      cases hs : s.data.toList with
      | nil => cases ht : t.data.toList <;> simp [Op.bytesLess]
      | cons x xs =>
        cases ht : t.data.toList with
        | nil => simp [Op.bytesLess]
        | cons y ys => simp [hs, ht] at d
    rw [this]
    exact h
  · rw [if_neg d] at h
    exact h
def befB (a b c d : ByteArray) : Bool := if a.toList = c.toList then lessB b d else lessB a c
theorem spec_l03Before_ev (a b c d : ByteArray) (ha : a.size < 4611686018427387904) (hb : b.size < 4611686018427387904) : Ev (fun k => spec_l03Before.f k a b c d) (befB a b c d) := by
  unfold spec_l03Before.f befB
  by_cases h : a.toList = c.toList
  · simp only [h, if_true]
    exact Ev.bind (spec_l02Less_ev b d hb) (Ev.now _)
  · simp only [h, if_false]
    exact Ev.bind (spec_l02Less_ev a c ha) (Ev.now _)
theorem less_irrefl : ∀ l : List UInt8, Op.bytesLess l l = false
  | [] => rfl
  | a :: l => by simp [Op.bytesLess, less_irrefl l, UInt8.lt_irrefl]
theorem cmp_Or_int_ev (x y : Int) : Ev (fun k => cmp_Or_int.f k [x, y]) (if x = 0 then y else x) := by
  unfold cmp_Or_int.f
  have w1 : wrap64 (0 + 1) = 1 := by unfold wrap64; omega
  have w2 : wrap64 (1 + 1) = 2 := by unfold wrap64; omega
  refine Ev.step (fun k => by rw [cmp_Or_int.l0]) ?_
  have r0 : rd [x, y] 0 = x := rfl
  have r1 : rd [x, y] 1 = y := rfl
  have l2 : (([x, y] : List Int).length : Int) = 2 := rfl
  simp only [l2, r0, w1, show (0 : Int) < 2 from by decide, show (0 : Int) ≤ 0 from by decide, if_true]
  by_cases hx : x = 0
  · simp only [hx, if_true]
    refine Ev.step (fun k => by rw [cmp_Or_int.l0]) ?_
    have r1' : rd [0, y] 1 = y := rfl
    have l2' : (([0, y] : List Int).length : Int) = 2 := rfl
    simp only [l2', r1', w2, show (1 : Int) < 2 from by decide, show (0 : Int) ≤ 1 from by decide, if_true]
    by_cases hy : y = 0
    · simp only [hy, if_true]
      refine Ev.step (fun k => by rw [cmp_Or_int.l0]) ?_
      simp only [show ¬ ((2 : Int) < 2) from by decide, if_false]
      exact Ev.now _
    · simp only [hy, if_false]
      exact Ev.now _
  · simp only [hx, if_false]
    exact Ev.now _
def cmpS (a b c d : ByteArray) : Int := if cmpB a c = 0 then cmpB b d else cmpB a c
theorem impl_compare_ev (a b : ByteArray) (ps : List S37) (c d : ByteArray) : Ev (fun k => impl_Series_compare.f k a b ps c d) (cmpS a b c d) := by
  unfold impl_Series_compare.f cmpS
  simp only [cmp_Compare_string.f, Option.bind_some]
  exact Ev.bind (cmp_Or_int_ev _ _) (Ev.now _)
theorem cmpB_zero (a b : ByteArray) : cmpB a b = 0 ↔ a.toList = b.toList := by
  unfold cmpB
  by_cases h : Op.bytesLess a.toList b.toList = true
  · rw [if_pos h]
    refine ⟨(fun h => by cases h), fun e => ?_⟩
    rw [e, less_irrefl] at h
    cases h
  · rw [if_neg h]
    by_cases e : a.toList = b.toList <;> simp [e]
theorem cmpB_neg (a b : ByteArray) : cmpB a b < 0 ↔ lessB a b = true := by
  unfold cmpB lessB
  by_cases h : Op.bytesLess a.toList b.toList = true
  · simp [h]
  · rw [if_neg h]
    by_cases e : (a.toList == b.toList) = true <;> simp [e, h]
theorem cmpS_neg (a b c d : ByteArray) : decide (cmpS a b c d ≥ 0) = !befB a b c d := by
  unfold cmpS befB
  by_cases h : a.toList = c.toList
  · rw [if_pos ((cmpB_zero a c).2 h), if_pos h]
    have := cmpB_neg b d
    cases hl : lessB b d with
    | true => rw [hl] at this; simp; exact this.2 rfl
    | false => rw [hl] at this; simp; have h2 : ¬ (cmpB b d < 0) := fun h => by cases this.1 h
               omega
  · rw [if_neg (fun h2 => h ((cmpB_zero a c).1 h2)), if_neg h]
    have := cmpB_neg a c
    cases hl : lessB a c with
    | true => rw [hl] at this; simp; exact this.2 rfl
    | false => rw [hl] at this; simp; have h2 : ¬ (cmpB a c < 0) := fun h => by cases this.1 h
               omega
end Go.Proofs.Ytplekidnlofioaa.Q
namespace Go.Proofs.Ytplekidnlofioaa.Q
open Go.RowKit Go.Proofs.YtplekidnlofioaaW.PrintWords Go.Proofs.YtplekidnlofioaaW.PrintLast
def ptsFrom : Option Int → List S37 → Bool
  | _, [] => true
  | prev, p :: r => inB p.f0 0 1000000000 && inB p.f1 0 1000000000 && (match prev with | none => true | some a => decide (a < p.f0)) && ptsFrom (some p.f0) r
def serOk (s : S81) : Bool := nameOk s.f0 && nameOk s.f1 && inB (s.f2.length : Int) 1 12 && ptsFrom none s.f2
def stFrom : Option S81 → List S81 → Bool
  | _, [] => true
  | prev, s :: r => serOk s && (match prev with | none => true | some q => befB q.f0 q.f1 s.f0 s.f1) && stFrom (some s) r
def storeOk (l : List S81) : Bool := decide ((l.length : Int) ≤ 24) && stFrom none l
def fitS (s : S81) : Prop := s.f0.size < 4611686018427387904 ∧ s.f1.size < 4611686018427387904 ∧ s.f2.length < 4611686018427387904
theorem isTick_v (x : Int) : impl_isTick.f x = some (inB x 0 1000000000) := by simp [impl_isTick.f, in_v]
theorem isSize_v (x : Int) : impl_isSize.f x = some (inB x 0 1000000000) := by simp [impl_isSize.f, in_v]
theorem l02Tick_v (x : Int) : spec_l02Tick.f x = some (inB x 0 1000000000) := by simp [spec_l02Tick.f, l01In_v]
theorem l01Amt_v (x : Int) : spec_l01Amt.f x = some (inB x 0 1000000000) := by simp [spec_l01Amt.f, l01In_v]
theorem rdP_mid (pre suf : List S37) (p : S37) : rd_T37 (pre ++ p :: suf) (pre.length : Int) = p := by simp [rd_T37]
theorem rdS_mid (pre suf : List S81) (p : S81) : rd_T81 (pre ++ p :: suf) (pre.length : Int) = p := by simp [rd_T81]
theorem wrap_pred (n : Nat) (h : n < 4611686018427387904) : wrap64 (((n + 1 : Nat) : Int) - 1) = (n : Int) := by unfold wrap64; omega
theorem no_ft : ¬ (false = true) := by decide
theorem wrap_small (x : Int) (h : -4611686018427387904 ≤ x) (h2 : x ≤ 4611686018427387904) : wrap64 x = x := by unfold wrap64; omega
theorem impl_Series_ok_l0_ev (a b : ByteArray) (ha : a.size < 4611686018427387904) (hb : b.size < 4611686018427387904) (ps : List S37) (hp : ps.length < 4611686018427387904) : ∀ suf pre, ps = pre ++ suf → Ev (fun k => impl_Series_ok.l0 k ps (ps.length : Int) (pre.length : Int) a b ps) (ptsFrom (pre.getLast?.map (·.f0)) suf && (nameOk a && nameOk b && inB (ps.length : Int) 1 12)) := by
  intro suf
  induction suf with
  | nil =>
    intro pre h
    refine Ev.step (fun k => by rw [impl_Series_ok.l0]) ?_
    have hlt : ¬ ((pre.length : Int) < (ps.length : Int)) := by rw [h]; simp
    simp only [if_neg hlt, ptsFrom, Bool.true_and]
    refine Ev.bind (impl_NameOk_ev a ha) ?_
    cases nameOk a
    · simp only [if_neg no_ft, Bool.false_and]; exact Ev.now _
    · simp only [if_true, Bool.true_and]
      refine Ev.bind (impl_NameOk_ev b hb) ?_
      cases nameOk b
      · simp only [if_neg no_ft, Bool.false_and]; exact Ev.now _
      · simp only [if_true, Bool.true_and, in_v, Option.bind_some]; exact Ev.now _
  | cons p suf ih =>
    intro pre h
    refine Ev.step (fun k => by rw [impl_Series_ok.l0]) ?_
    have hlt : ((pre.length : Int) < (ps.length : Int)) := by rw [h]; exact lt_mid _ _ _
    have hl : pre.length < ps.length := by omega
    have hw := wrapn pre.length (by omega)
    have hr := ih (pre ++ [p]) (by rw [h]; simp)
    rw [List.length_append, List.length_singleton, List.getLast?_concat, Option.map_some] at hr
    have hrd : rd_T37 ps (pre.length : Int) = p := by rw [h]; exact rdP_mid _ _ _
    simp only [if_pos hlt, if_pos (nn _), hrd, hw, isTick_v, isSize_v, Option.bind_some, ptsFrom]
    cases inB p.f0 0 1000000000
    · simp only [if_neg no_ft, Bool.false_and]; exact Ev.now _
    · simp only [if_true, Bool.true_and]
      cases inB p.f1 0 1000000000
      · simp only [if_neg no_ft, Bool.false_and]; exact Ev.now _
      · simp only [if_true, Bool.true_and]
        rcases List.eq_nil_or_concat pre with rfl | ⟨pre', q, rfl⟩
        · simp only [List.length_nil, List.getLast?_nil, Option.map_none, Bool.true_and]
          simp only [show ¬ (((0 : Nat) : Int) > 0) from by decide, if_false]
          exact hr
        · rw [List.concat_eq_append] at *
          simp only [List.length_append, List.length_singleton, List.getLast?_concat, Option.map_some] at *
          have hwp := wrap_pred pre'.length (by omega)
          have hq : rd_T37 ps (pre'.length : Int) = q := by rw [h]; rw [List.append_assoc]; exact rdP_mid _ _ _
          have h1 : (((pre'.length + 1 : Nat)) : Int) > 0 := by omega
          have h2 : ((pre'.length : Nat) : Int) < (ps.length : Int) := by omega
          simp only [h1, if_true, hwp, if_pos (nn _), h2, hq]
          by_cases c : q.f0 ≥ p.f0
          · simp only [c, if_true, show decide (q.f0 < p.f0) = false from by simp; omega, Bool.false_and]; exact Ev.now _
          · simp only [c, if_false, show decide (q.f0 < p.f0) = true from by simp; omega, Bool.true_and]; exact hr
theorem impl_Series_ok_ev (s : S81) (h : fitS s) : Ev (fun k => impl_Series_ok.f k s.f0 s.f1 s.f2) (serOk s) := by
  unfold impl_Series_ok.f serOk
  have := impl_Series_ok_l0_ev s.f0 s.f1 h.1 h.2.1 s.f2 h.2.2 s.f2 [] rfl
  rw [Bool.and_comm]
  exact this
theorem impl_StoreOk_l0_ev (xs : List S81) (hx : xs.length < 4611686018427387904) (hf : ∀ s ∈ xs, fitS s) : ∀ suf pre, xs = pre ++ suf → Ev (fun k => impl_StoreOk.l0 k xs xs (xs.length : Int) (pre.length : Int)) (stFrom pre.getLast? suf && decide ((xs.length : Int) ≤ 24)) := by
  intro suf
  induction suf with
  | nil =>
    intro pre h
    refine Ev.step (fun k => by rw [impl_StoreOk.l0]) ?_
    have hlt : ¬ ((pre.length : Int) < (xs.length : Int)) := by rw [h]; simp
    simp only [if_neg hlt, stFrom, Bool.true_and]
    exact Ev.now _
  | cons s suf ih =>
    intro pre h
    refine Ev.step (fun k => by rw [impl_StoreOk.l0]) ?_
    have hlt : ((pre.length : Int) < (xs.length : Int)) := by rw [h]; exact lt_mid _ _ _
    have hl : pre.length < xs.length := by omega
    have hw := wrapn pre.length (by omega)
    have hr := ih (pre ++ [s]) (by rw [h]; simp)
    rw [List.length_append, List.length_singleton, List.getLast?_concat] at hr
    have hrd : rd_T81 xs (pre.length : Int) = s := by rw [h]; exact rdS_mid _ _ _
    simp only [if_pos hlt, if_pos (nn _), hrd, hw, stFrom]
    refine Ev.bind (impl_Series_ok_ev s (hf s (by rw [h]; simp))) ?_
    cases serOk s
    · simp only [if_neg no_ft, Bool.false_and]; exact Ev.now _
    · simp only [if_true, Bool.true_and]
      rcases List.eq_nil_or_concat pre with rfl | ⟨pre', q, rfl⟩
      · simp only [List.length_nil, List.getLast?_nil, Bool.true_and]
        simp only [show ¬ (((0 : Nat) : Int) > 0) from by decide, if_false]
        exact hr
      · rw [List.concat_eq_append] at *
        simp only [List.length_append, List.length_singleton, List.getLast?_concat] at *
        have hwp := wrap_pred pre'.length (by omega)
        have hq : rd_T81 xs (pre'.length : Int) = q := by rw [h]; rw [List.append_assoc]; exact rdS_mid _ _ _
        have h1 : (((pre'.length + 1 : Nat)) : Int) > 0 := by omega
        have h2 : ((pre'.length : Nat) : Int) < (xs.length : Int) := by omega
        simp only [h1, if_true, hwp, if_pos (nn _), h2, hq]
        refine Ev.bind (impl_compare_ev q.f0 q.f1 q.f2 s.f0 s.f1) ?_
        have hc := cmpS_neg q.f0 q.f1 s.f0 s.f1
        cases hb : befB q.f0 q.f1 s.f0 s.f1
        · rw [hb] at hc
          simp only [of_decide_eq_true hc, if_true, Bool.false_and]; exact Ev.now _
        · rw [hb] at hc
          simp only [of_decide_eq_false hc, if_false, Bool.true_and]; exact hr
theorem impl_StoreOk_ev (xs : List S81) (hx : xs.length < 4611686018427387904) (hf : ∀ s ∈ xs, fitS s) : Ev (fun k => impl_StoreOk.f k xs) (storeOk xs) := by
  unfold impl_StoreOk.f storeOk
  have := impl_StoreOk_l0_ev xs hx hf xs [] rfl
  rw [Bool.and_comm]
  exact this
theorem spec_StoreOk_l1_ev (xs : List S81) (i : Int) (a b : ByteArray) (ps : List S37) (hp : ps.length < 4611686018427387904) (R : Bool) (hR : Ev (fun k => spec_StoreOk.l0 k xs (wrap64 (i + 1))) R) : ∀ suf pre, ps = pre ++ suf → Ev (fun k => spec_StoreOk.l1 k xs i (pre.length : Int) a b ps) (ptsFrom (pre.getLast?.map (·.f0)) suf && R) := by
  intro suf
  induction suf with
  | nil =>
    intro pre h
    refine Ev.step (fun k => by rw [spec_StoreOk.l1]) ?_
    have hlt : ¬ ((pre.length : Int) < (ps.length : Int)) := by rw [h]; simp
    simp only [if_neg hlt, ptsFrom, Bool.true_and]
    exact hR
  | cons p suf ih =>
    intro pre h
    refine Ev.step (fun k => by rw [spec_StoreOk.l1]) ?_
    have hlt : ((pre.length : Int) < (ps.length : Int)) := by rw [h]; exact lt_mid _ _ _
    have hl : pre.length < ps.length := by omega
    have hw := wrapn pre.length (by omega)
    have hr := ih (pre ++ [p]) (by rw [h]; simp)
    rw [List.length_append, List.length_singleton, List.getLast?_concat, Option.map_some] at hr
    have hrd : rd_T37 ps (pre.length : Int) = p := by rw [h]; exact rdP_mid _ _ _
    simp only [if_pos hlt, if_pos (nn _), hrd, hw, l02Tick_v, l01Amt_v, Option.bind_some, ptsFrom]
    cases inB p.f0 0 1000000000
    · simp only [if_neg no_ft, Bool.false_and]; exact Ev.now _
    · simp only [if_true, Bool.true_and]
      cases inB p.f1 0 1000000000
      · simp only [if_neg no_ft, Bool.false_and]; exact Ev.now _
      · simp only [if_true, Bool.true_and]
        rcases List.eq_nil_or_concat pre with rfl | ⟨pre', q, rfl⟩
        · simp only [List.length_nil, List.getLast?_nil, Option.map_none, Bool.true_and]
          simp only [show ¬ (((0 : Nat) : Int) > 0) from by decide, if_false]
          exact hr
        · rw [List.concat_eq_append] at *
          simp only [List.length_append, List.length_singleton, List.getLast?_concat, Option.map_some] at *
          have hwp := wrap_pred pre'.length (by omega)
          have hq : rd_T37 ps (pre'.length : Int) = q := by rw [h]; rw [List.append_assoc]; exact rdP_mid _ _ _
          have h1 : (((pre'.length + 1 : Nat)) : Int) > 0 := by omega
          have h2 : ((pre'.length : Nat) : Int) < (ps.length : Int) := by omega
          simp only [h1, if_true, hwp, if_pos (nn _), h2, hq]
          by_cases c : q.f0 ≥ p.f0
          · simp only [c, if_true, show decide (q.f0 < p.f0) = false from by simp; omega, Bool.false_and]; exact Ev.now _
          · simp only [c, if_false, show decide (q.f0 < p.f0) = true from by simp; omega, Bool.true_and]; exact hr
theorem spec_j1_true (xs : List S81) (i : Int) (a b : ByteArray) (ps : List S37) : Ev (fun k => spec_StoreOk.j1 k xs i true a b ps) false := by
  refine Ev.step (fun k => by rw [spec_StoreOk.j1]) ?_
  simp only [if_true]
  exact Ev.now _
theorem spec_StoreOk_l0_ev (xs : List S81) (hx : xs.length < 4611686018427387904) (hf : ∀ s ∈ xs, fitS s) : ∀ suf pre, xs = pre ++ suf → Ev (fun k => spec_StoreOk.l0 k xs (pre.length : Int)) (stFrom pre.getLast? suf) := by
  intro suf
  induction suf with
  | nil =>
    intro pre h
    refine Ev.step (fun k => by rw [spec_StoreOk.l0]) ?_
    have hlt : ¬ ((pre.length : Int) < (xs.length : Int)) := by rw [h]; simp
    simp only [if_neg hlt, stFrom]
    exact Ev.now _
  | cons s suf ih =>
    intro pre h
    refine Ev.step (fun k => by rw [spec_StoreOk.l0]) ?_
    have hlt : ((pre.length : Int) < (xs.length : Int)) := by rw [h]; exact lt_mid _ _ _
    have hl : pre.length < xs.length := by omega
    have hw := wrapn pre.length (by omega)
    have hr := ih (pre ++ [s]) (by rw [h]; simp)
    rw [List.length_append, List.length_singleton, List.getLast?_concat, ← hw] at hr
    have hrd : rd_T81 xs (pre.length : Int) = s := by rw [h]; exact rdS_mid _ _ _
    have hfs := hf s (by rw [h]; simp)
    have hl1 := spec_StoreOk_l1_ev xs (pre.length : Int) s.f0 s.f1 s.f2 hfs.2.2 _ hr s.f2 [] rfl
    have hj1 : Ev (fun k => spec_StoreOk.j1 k xs (pre.length : Int) false s.f0 s.f1 s.f2) (ptsFrom none s.f2 && stFrom (some s) suf) := by
      refine Ev.step (fun k => by rw [spec_StoreOk.j1]) ?_
      simp only [if_neg no_ft]
      exact hl1
    simp only [if_pos hlt, if_pos (nn _), hrd, l01In_v, Option.bind_some, stFrom, serOk]
    refine Ev.bind (spec_NameOk_ev s.f0) ?_
    cases nameOk s.f0
    · simp only [if_neg no_ft, Bool.false_and]; exact spec_j1_true _ _ _ _ _
    · simp only [if_true, Bool.true_and]
      refine Ev.bind (spec_NameOk_ev s.f1) ?_
      cases nameOk s.f1
      · simp only [if_neg no_ft, Bool.false_and]; exact spec_j1_true _ _ _ _ _
      · simp only [if_true, Bool.true_and]
        cases inB (s.f2.length : Int) 1 12
        · simp only [if_neg no_ft, Bool.false_and]; exact spec_j1_true _ _ _ _ _
        · simp only [if_true, Bool.true_and]
          rcases List.eq_nil_or_concat pre with rfl | ⟨pre', q, rfl⟩
          · simp only [List.length_nil, List.getLast?_nil, Bool.and_true]
            simp only [show ¬ (((0 : Nat) : Int) > 0) from by decide, if_false]
            exact hj1
          · rw [List.concat_eq_append] at *
            simp only [List.length_append, List.length_singleton, List.getLast?_concat] at *
            have hwp := wrap_pred pre'.length (by omega)
            have hq : rd_T81 xs (pre'.length : Int) = q := by rw [h]; rw [List.append_assoc]; exact rdS_mid _ _ _
            have h1 : (((pre'.length + 1 : Nat)) : Int) > 0 := by omega
            have h2 : ((pre'.length : Nat) : Int) < (xs.length : Int) := by omega
            have hfq := hf q (by rw [h]; simp)
            simp only [h1, if_true, hwp, if_pos (nn _), h2, hq]
            refine Ev.bind (spec_l03Before_ev q.f0 q.f1 s.f0 s.f1 hfq.1 hfq.2.1) ?_
            cases befB q.f0 q.f1 s.f0 s.f1
            · simp only [Bool.not_false, Bool.and_false, Bool.false_and]; exact spec_j1_true _ _ _ _ _
            · simp only [Bool.not_true, Bool.and_true]; exact hj1
theorem spec_StoreOk_ev (xs : List S81) (hx : xs.length < 4611686018427387904) (hf : ∀ s ∈ xs, fitS s) : Ev (fun k => spec_StoreOk.f k xs) (storeOk xs) := by
  unfold spec_StoreOk.f storeOk
  by_cases c : (xs.length : Int) > 24
  · simp only [c, if_true, show decide ((xs.length : Int) ≤ 24) = false from by simp; omega, Bool.false_and]; exact Ev.now _
  · simp only [c, if_false, show decide ((xs.length : Int) ≤ 24) = true from by simp; omega, Bool.true_and]
    exact spec_StoreOk_l0_ev xs hx hf xs [] rfl
end Go.Proofs.Ytplekidnlofioaa.Q
namespace Go.Proofs.Ytplekidnlofioaa.Q
open Go.RowKit Go.Proofs.YtplekidnlofioaaW.PrintWords Go.Proofs.YtplekidnlofioaaW.PrintLast
def cutN (t : Int) : Int := if t < 0 then -1 else t
theorem cutN_neg {t : Int} (h : t < 0) : cutN t = -1 := by simp [cutN, h]
theorem cutN_nn {t : Int} (h : ¬ t < 0) : cutN t = t := by simp [cutN, h]
def wS (s : S137) : Int := s.f0.size + s.f1.size + s.f2.length
def wL : List S137 → Int
  | [] => 0
  | s :: r => wS s + wL r
theorem wS_nn (s : S137) : 0 ≤ wS s := by unfold wS; omega
theorem wL_nn : ∀ l, 0 ≤ wL l
  | [] => by simp [wL]
  | s :: r => by have := wS_nn s; have := wL_nn r; simp only [wL]; omega
def bigS (s : S137) : Prop := s.f0.size ≤ 140737488351232 ∧ s.f1.size ≤ 140737488351232 ∧ s.f2.length ≤ 140737488351232
theorem szSeries_v (s : S137) (h : bigS s) (a : Int) (h0 : 0 ≤ a) (h1 : a ≤ 1048576) : laws_szSeries.f s.f0 s.f1 s.f2 a = some (cutN (a - wS s)) := by
  obtain ⟨h2, h3, h4⟩ := h
  unfold laws_szSeries.f laws_szPointS.f wS
  rw [wrap_small (a - (s.f0.size : Int)) (by omega) (by omega)]
  by_cases c : a - (s.f0.size : Int) < 0
  · rw [if_pos c, cutN_neg (by omega)]
  · rw [if_neg c, wrap_small (a - (s.f0.size : Int) - (s.f1.size : Int)) (by omega) (by omega)]
    by_cases c2 : a - (s.f0.size : Int) - (s.f1.size : Int) < 0
    · rw [if_pos c2, cutN_neg (by omega)]
    · rw [if_neg c2, wrap_small _ (by omega) (by omega)]
      by_cases c3 : a - (s.f0.size : Int) - (s.f1.size : Int) - (s.f2.length : Int) < 0
      · rw [if_pos c3, cutN_neg (by omega)]
        rfl
      · rw [if_neg c3, cutN_nn (by omega), Option.bind_some, if_neg c3]
        congr 1
        omega
theorem rdLS_mid (pre suf : List S137) (p : S137) : rd_T137 (pre ++ p :: suf) (pre.length : Int) = p := by simp [rd_T137]
theorem rdLP_mid (pre suf : List S219) (p : S219) : rd_T219 (pre ++ p :: suf) (pre.length : Int) = p := by simp [rd_T219]
theorem szSeriesS_l0_ev (xs : List S137) (hx : xs.length < 4611686018427387904) (hf : ∀ s ∈ xs, bigS s) : ∀ suf pre (a : Int), xs = pre ++ suf → 0 ≤ a → a ≤ 1048576 → Ev (fun k => laws_szSeriesS.l0 k xs a (pre.length : Int)) (cutN (a - wL suf)) := by
  intro suf
  induction suf with
  | nil =>
    intro pre a h h0 h1
    refine Ev.step (fun k => by rw [laws_szSeriesS.l0]) ?_
    have hlt : ¬ ((pre.length : Int) < (xs.length : Int)) := by rw [h]; simp
    simp only [if_neg hlt, wL, Int.sub_zero]
    rw [cutN_nn (by omega)]
    exact Ev.now _
  | cons s suf ih =>
    intro pre a h h0 h1
    refine Ev.step (fun k => by rw [laws_szSeriesS.l0]) ?_
    have hlt : ((pre.length : Int) < (xs.length : Int)) := by rw [h]; exact lt_mid _ _ _
    have hw := wrapn pre.length (by omega)
    have hrd : rd_T137 xs (pre.length : Int) = s := by rw [h]; exact rdLS_mid _ _ _
    have hs := szSeries_v s (hf s (by rw [h]; simp)) a h0 h1
    have n1 := wS_nn s
    have n2 := wL_nn suf
    simp only [if_pos hlt, if_pos (nn _), hrd, hw, hs, Option.bind_some, wL]
    by_cases c : a - wS s < 0
    · rw [cutN_neg c, cutN_neg (by omega)]
      simp only [show ((-1 : Int) < 0) from by decide, if_true]
      exact Ev.now _
    · rw [cutN_nn c]
      simp only [c, if_false]
      have hr := ih (pre ++ [s]) (a - wS s) (by rw [h]; simp) (by omega) (by omega)
      rw [List.length_append, List.length_singleton] at hr
      rw [show a - (wS s + wL suf) = a - wS s - wL suf from by omega]
      exact hr
theorem szSeriesS_ev (xs : List S137) (hx : xs.length ≤ 140737488351232) (hf : ∀ s ∈ xs, bigS s) (a : Int) (h0 : 0 ≤ a) (h1 : a ≤ 1048576) : Ev (fun k => laws_szSeriesS.f k xs a) (cutN (a - xs.length - wL xs)) := by
  unfold laws_szSeriesS.f
  rw [wrap_small _ (by omega) (by omega)]
  have n2 := wL_nn xs
  by_cases c : a - (xs.length : Int) < 0
  · simp only [c, if_true]
    rw [cutN_neg (by omega)]
    exact Ev.now _
  · simp only [c, if_false]
    exact szSeriesS_l0_ev xs (by omega) hf xs [] _ rfl (by omega) (by omega)
theorem wL_mem : ∀ {l : List S137} {s : S137}, s ∈ l → wS s ≤ wL l
  | x :: r, s, h => by
    have n1 := wS_nn x
    have n2 := wL_nn r
    rcases List.mem_cons.1 h with rfl | h
    · simp only [wL]; omega
    · have := wL_mem h; simp only [wL]; omega
def toP (p : S219) : S37 := ⟨p.f0, p.f1⟩
def toS (s : S137) : S81 := ⟨s.f0, s.f1, s.f2.map toP⟩
theorem set_mid {α : Type} (pre suf : List α) (x y : α) : (pre ++ x :: suf).set pre.length y = pre ++ y :: suf := by
  induction pre with
  | nil => rfl
  | cons a r ih => simp [ih]
theorem toPointS_l0_ev (xs : List S219) (hx : xs.length < 4611686018427387904) : ∀ suf pre, xs = pre ++ suf → Ev (fun k => laws_toPointS.l0 k xs (pre.map toP ++ List.replicate suf.length z37) (pre.length : Int)) (xs.map toP) := by
  intro suf
  induction suf with
  | nil =>
    intro pre h
    refine Ev.step (fun k => by rw [laws_toPointS.l0]) ?_
    have hlt : ¬ ((pre.length : Int) < (xs.length : Int)) := by rw [h]; simp
    simp only [if_neg hlt]
    rw [h, List.append_nil, List.length_nil, List.replicate_zero, List.append_nil]
    exact Ev.now _
  | cons p suf ih =>
    intro pre h
    refine Ev.step (fun k => by rw [laws_toPointS.l0]) ?_
    have hlt : ((pre.length : Int) < (xs.length : Int)) := by rw [h]; exact lt_mid _ _ _
    have hw := wrapn pre.length (by omega)
    have hrd : rd_T219 xs (pre.length : Int) = p := by rw [h]; exact rdLP_mid _ _ _
    have hr := ih (pre ++ [p]) (by rw [h]; simp)
    rw [List.length_append, List.length_singleton, List.map_append, List.append_assoc] at hr
    have hl2 : (pre.length : Int) < ((pre.map toP ++ List.replicate (p :: suf).length z37).length : Int) := by simp; omega
    have hset : (pre.map toP ++ List.replicate (p :: suf).length z37).set pre.length (toP p) = pre.map toP ++ ([p].map toP ++ List.replicate suf.length z37) := by
      rw [List.length_cons, List.replicate_succ]
      have := set_mid (pre.map toP) (List.replicate suf.length z37) z37 (toP p)
      rw [List.length_map] at this
      rw [this]
      rfl
    simp only [if_pos hlt, if_pos (nn _), hrd, hw, laws_toPoint.f, Option.bind_some, if_pos hl2, Int.toNat_natCast]
    rw [show (⟨p.f0, p.f1⟩ : S37) = toP p from rfl, hset]
    exact hr
theorem toPointS_ev (xs : List S219) (hx : xs.length ≤ 1048576) : Ev (fun k => laws_toPointS.f k xs) (xs.map toP) := by
  unfold laws_toPointS.f
  simp only [if_pos (nn _), Int.toNat_natCast, show xs.length ≤ 17592186044416 from by omega, if_true]
  exact toPointS_l0_ev xs (by omega) xs [] rfl
theorem toSeriesS_l0_ev (xs : List S137) (hx : xs.length < 4611686018427387904) (hf : ∀ s ∈ xs, s.f2.length ≤ 1048576) : ∀ suf pre, xs = pre ++ suf → Ev (fun k => laws_toSeriesS.l0 k xs (pre.map toS ++ List.replicate suf.length z81) (pre.length : Int)) (xs.map toS) := by
  intro suf
  induction suf with
  | nil =>
    intro pre h
    refine Ev.step (fun k => by rw [laws_toSeriesS.l0]) ?_
    have hlt : ¬ ((pre.length : Int) < (xs.length : Int)) := by rw [h]; simp
    simp only [if_neg hlt]
    rw [h, List.append_nil, List.length_nil, List.replicate_zero, List.append_nil]
    exact Ev.now _
  | cons p suf ih =>
    intro pre h
    refine Ev.step (fun k => by rw [laws_toSeriesS.l0]) ?_
    have hlt : ((pre.length : Int) < (xs.length : Int)) := by rw [h]; exact lt_mid _ _ _
    have hw := wrapn pre.length (by omega)
    have hrd : rd_T137 xs (pre.length : Int) = p := by rw [h]; exact rdLS_mid _ _ _
    have hr := ih (pre ++ [p]) (by rw [h]; simp)
    rw [List.length_append, List.length_singleton, List.map_append, List.append_assoc] at hr
    have hl2 : (pre.length : Int) < ((pre.map toS ++ List.replicate (p :: suf).length z81).length : Int) := by simp; omega
    have hset : (pre.map toS ++ List.replicate (p :: suf).length z81).set pre.length (toS p) = pre.map toS ++ ([p].map toS ++ List.replicate suf.length z81) := by
      rw [List.length_cons, List.replicate_succ]
      have := set_mid (pre.map toS) (List.replicate suf.length z81) z81 (toS p)
      rw [List.length_map] at this
      rw [this]
      rfl
    simp only [if_pos hlt, if_pos (nn _), hrd, hw, if_pos hl2, Int.toNat_natCast]
    have hto : Ev (fun k => laws_toSeries.f k p.f0 p.f1 p.f2) (p.f0, p.f1, p.f2.map toP) := by
      unfold laws_toSeries.f
      exact Ev.bind (toPointS_ev p.f2 (hf p (by rw [h]; simp))) (Ev.now _)
    refine Ev.bind hto ?_
    rw [show (⟨p.f0, p.f1, p.f2.map toP⟩ : S81) = toS p from rfl, hset]
    exact hr
theorem toSeriesS_ev (xs : List S137) (hx : xs.length ≤ 1048576) (hf : ∀ s ∈ xs, s.f2.length ≤ 1048576) : Ev (fun k => laws_toSeriesS.f k xs) (xs.map toS) := by
  unfold laws_toSeriesS.f
  simp only [if_pos (nn _), Int.toNat_natCast, show xs.length ≤ 5026338869833 from by omega, if_true]
  exact toSeriesS_l0_ev xs (by omega) hf xs [] rfl
theorem eqPointS_l0_ev (xs : List S37) (hx : xs.length < 4611686018427387904) : ∀ suf pre, xs = pre ++ suf → Ev (fun k => laws_eqPointS.l0 k xs xs (pre.length : Int)) true := by
  intro suf
  induction suf with
  | nil =>
    intro pre h
    refine Ev.step (fun k => by rw [laws_eqPointS.l0]) ?_
    have hlt : ¬ ((pre.length : Int) < (xs.length : Int)) := by rw [h]; simp
    simp only [if_neg hlt]
    exact Ev.now _
  | cons p suf ih =>
    intro pre h
    refine Ev.step (fun k => by rw [laws_eqPointS.l0]) ?_
    have hlt : ((pre.length : Int) < (xs.length : Int)) := by rw [h]; exact lt_mid _ _ _
    have hw := wrapn pre.length (by omega)
    have hr := ih (pre ++ [p]) (by rw [h]; simp)
    rw [List.length_append, List.length_singleton] at hr
    simp only [if_pos hlt, if_pos (nn _), hw, laws_eqPoint.f, if_true, Option.bind_some]
    exact hr
theorem eqPointS_ev (xs : List S37) (hx : xs.length < 4611686018427387904) : Ev (fun k => laws_eqPointS.f k xs xs) true := by
  unfold laws_eqPointS.f
  simp only [if_true]
  exact eqPointS_l0_ev xs hx xs [] rfl
theorem eqSeriesS_l0_ev (xs : List S81) (hx : xs.length < 4611686018427387904) (hf : ∀ s ∈ xs, s.f2.length < 4611686018427387904) : ∀ suf pre, xs = pre ++ suf → Ev (fun k => laws_eqSeriesS.l0 k xs xs (pre.length : Int)) true := by
  intro suf
  induction suf with
  | nil =>
    intro pre h
    refine Ev.step (fun k => by rw [laws_eqSeriesS.l0]) ?_
    have hlt : ¬ ((pre.length : Int) < (xs.length : Int)) := by rw [h]; simp
    simp only [if_neg hlt]
    exact Ev.now _
  | cons p suf ih =>
    intro pre h
    refine Ev.step (fun k => by rw [laws_eqSeriesS.l0]) ?_
    have hlt : ((pre.length : Int) < (xs.length : Int)) := by rw [h]; exact lt_mid _ _ _
    have hw := wrapn pre.length (by omega)
    have hrd : rd_T81 xs (pre.length : Int) = p := by rw [h]; exact rdS_mid _ _ _
    have hr := ih (pre ++ [p]) (by rw [h]; simp)
    rw [List.length_append, List.length_singleton] at hr
    simp only [if_pos hlt, if_pos (nn _), hw, laws_eqSeries.f, if_true, hrd]
    refine Ev.bind (a := true) ?_ ?_
    · exact Ev.bind (eqPointS_ev p.f2 (hf p (by rw [h]; simp))) (by simp only [if_true]; exact Ev.now _)
    · simp only [if_true]
      exact hr
theorem eqSeriesS_ev (xs : List S81) (hx : xs.length < 4611686018427387904) (hf : ∀ s ∈ xs, s.f2.length < 4611686018427387904) : Ev (fun k => laws_eqSeriesS.f k xs xs) true := by
  unfold laws_eqSeriesS.f
  simp only [if_true]
  exact eqSeriesS_l0_ev xs hx hf xs [] rfl
end Go.Proofs.Ytplekidnlofioaa.Q
namespace Go.Proofs.Ytplekidnlofioaa.Q
open Go.RowKit Go.Proofs.YtplekidnlofioaaW.PrintWords Go.Proofs.YtplekidnlofioaaW.PrintLast
def isNamed (a b : ByteArray) (s : S81) : Bool := decide (s.f0.toList = a.toList) && decide (s.f1.toList = b.toList)
theorem spec_l03At_l0_ev (xs : List S81) (hx : xs.length < 4611686018427387904) (a b : ByteArray) : ∀ suf pre, xs = pre ++ suf → ∃ t : Int, Ev (fun k => spec_l03At.l0 k xs a b (pre.length : Int)) t ∧ ((t = -1 ∧ suf.find? (isNamed a b) = none) ∨ ∃ (j : Nat) (s : S81), t = (j : Int) ∧ xs[j]? = some s ∧ suf.find? (isNamed a b) = some s) := by
  intro suf
  induction suf with
  | nil =>
    intro pre h
    refine ⟨-1, Ev.step (fun k => by rw [spec_l03At.l0]) ?_, .inl ⟨rfl, rfl⟩⟩
    have hlt : ¬ ((pre.length : Int) < (xs.length : Int)) := by rw [h]; simp
    simp only [if_neg hlt]
    exact Ev.now _
  | cons s suf ih =>
    intro pre h
    have hlt : ((pre.length : Int) < (xs.length : Int)) := by rw [h]; exact lt_mid _ _ _
    have hw := wrapn pre.length (by omega)
    have hrd : rd_T81 xs (pre.length : Int) = s := by rw [h]; exact rdS_mid _ _ _
    by_cases hn : isNamed a b s = true
    · refine ⟨(pre.length : Int), Ev.step (fun k => by rw [spec_l03At.l0]) ?_, .inr ⟨pre.length, s, rfl, by rw [h]; simp, by simp [List.find?, hn]⟩⟩
      simp only [isNamed, Bool.and_eq_true, decide_eq_true_eq] at hn
      simp only [if_pos hlt, if_pos (nn _), hrd, hn.1, hn.2, if_true]
      exact Ev.now _
    · obtain ⟨t, h1, h2⟩ := ih (pre ++ [s]) (by rw [h]; simp)
      rw [List.length_append, List.length_singleton] at h1
      refine ⟨t, Ev.step (fun k => by rw [spec_l03At.l0]) ?_, ?_⟩
      · simp only [if_pos hlt, if_pos (nn _), hrd, hw]
        by_cases c1 : s.f0.toList = a.toList
        · by_cases c2 : s.f1.toList = b.toList
          · exact absurd (by simp [isNamed, c1, c2]) hn
          · simp only [c1, c2, if_true, if_false]; exact h1
        · simp only [c1, if_false]; exact h1
      · simpa [List.find?, hn] using h2
theorem impl_pointsOf_l0_ev (xs : List S81) (hx : xs.length < 4611686018427387904) (a b : ByteArray) : ∀ suf pre, xs = pre ++ suf → Ev (fun k => impl_pointsOf.l0 k a b xs (xs.length : Int) (pre.length : Int)) (match suf.find? (isNamed a b) with | some s => s.f2 | none => []) := by
  intro suf
  induction suf with
  | nil =>
    intro pre h
    refine Ev.step (fun k => by rw [impl_pointsOf.l0]) ?_
    have hlt : ¬ ((pre.length : Int) < (xs.length : Int)) := by rw [h]; simp
    simp only [if_neg hlt]
    exact Ev.now _
  | cons s suf ih =>
    intro pre h
    have hlt : ((pre.length : Int) < (xs.length : Int)) := by rw [h]; exact lt_mid _ _ _
    have hw := wrapn pre.length (by omega)
    have hrd : rd_T81 xs (pre.length : Int) = s := by rw [h]; exact rdS_mid _ _ _
    have hr := ih (pre ++ [s]) (by rw [h]; simp)
    rw [List.length_append, List.length_singleton] at hr
    refine Ev.step (fun k => by rw [impl_pointsOf.l0]) ?_
    simp only [if_pos hlt, if_pos (nn _), hrd, hw]
    by_cases c1 : s.f0.toList = a.toList
    · by_cases c2 : s.f1.toList = b.toList
      · have hn : isNamed a b s = true := by simp [isNamed, c1, c2]
        simp only [c1, c2, if_true, List.find?, hn]; exact Ev.now _
      · have hn : isNamed a b s = false := by simp [isNamed, c2]
        simp only [c1, c2, if_true, if_false, List.find?, hn]; exact hr
    · have hn : isNamed a b s = false := by simp [isNamed, c1]
      simp only [c1, if_false, List.find?, hn]; exact hr
theorem spec_l03Points_l0_ev (ps : List S37) (hp : ps.length < 8796093022208) : ∀ suf pre, ps = pre ++ suf → Ev (fun k => spec_l03Points.l0 k ps pre (pre.length : Int)) ps := by
  intro suf
  induction suf with
  | nil =>
    intro pre h
    refine Ev.step (fun k => by rw [spec_l03Points.l0]) ?_
    have hlt : ¬ ((pre.length : Int) < (ps.length : Int)) := by rw [h]; simp
    simp only [if_neg hlt]
    rw [h, List.append_nil]
    exact Ev.now _
  | cons p suf ih =>
    intro pre h
    have hlt : ((pre.length : Int) < (ps.length : Int)) := by rw [h]; exact lt_mid _ _ _
    have hw := wrapn pre.length (by omega)
    have hrd : rd_T37 ps (pre.length : Int) = p := by rw [h]; exact rdP_mid _ _ _
    have hr := ih (pre ++ [p]) (by rw [h]; simp)
    rw [List.length_append, List.length_singleton] at hr
    refine Ev.step (fun k => by rw [spec_l03Points.l0]) ?_
    have hb : pre.length < 8796093022208 := by omega
    simp only [if_pos hlt, if_pos (nn _), hrd, hw, if_pos hb]
    exact hr
theorem spec_l03Points_ev (ps : List S37) (hp : ps.length < 8796093022208) : Ev (fun k => spec_l03Points.f k ps) ps := spec_l03Points_l0_ev ps hp ps [] rfl
def serOf (l : List S81) (a b : ByteArray) : List S37 × Bool := if storeOk l = true then (match l.find? (isNamed a b) with | some s => (s.f2, true) | none => ([], false)) else ([], false)
theorem stFrom_all : ∀ (l : List S81) (prev : Option S81), stFrom prev l = true → ∀ s ∈ l, serOk s = true
  | [], _, _, s, hs => by cases hs
  | x :: r, prev, h, s, hs => by
    simp only [stFrom, Bool.and_eq_true] at h
    rcases List.mem_cons.1 hs with rfl | hs
    · exact h.1.1
    · exact stFrom_all r _ h.2 s hs
theorem storeOk_all {l : List S81} (h : storeOk l = true) : ∀ s ∈ l, serOk s = true := by
  simp only [storeOk, Bool.and_eq_true] at h
  exact stFrom_all l _ h.2
theorem serOk_len {s : S81} (h : serOk s = true) : 1 ≤ s.f2.length ∧ s.f2.length ≤ 12 := by
  simp only [serOk, inB, Bool.and_eq_true, decide_eq_true_eq] at h
  omega
theorem find_mem {l : List S81} {p : S81 → Bool} {s : S81} (h : l.find? p = some s) : s ∈ l := List.mem_of_find?_eq_some h
theorem spec_SeriesOf_ev (l : List S81) (hx : l.length < 4611686018427387904) (hf : ∀ s ∈ l, fitS s) (a b : ByteArray) : Ev (fun k => spec_SeriesOf.f k l a b) (serOf l a b) := by
  unfold spec_SeriesOf.f serOf
  obtain ⟨t, h1, h2⟩ := spec_l03At_l0_ev l hx a b l [] rfl
  refine Ev.bind (a := t) h1 ?_
  refine Ev.bind (spec_StoreOk_ev l hx hf) ?_
  cases hs : storeOk l
  · simp only [if_neg no_ft]; exact Ev.now _
  · simp only [if_true]
    rcases h2 with ⟨rfl, h2⟩ | ⟨j, s, rfl, hj, h2⟩
    · rw [h2]
      simp only [show ((-1 : Int) < 0) from by decide, if_true]
      exact Ev.now _
    · rw [h2]
      have hjl : j < l.length := (List.getElem?_eq_some_iff.1 hj).1
      have hrd : rd_T81 l (j : Int) = s := by simp [rd_T81, List.getD, hj]
      have hsl := serOk_len (storeOk_all hs s (find_mem h2))
      simp only [show ¬ ((j : Int) < 0) from by omega, if_false, if_pos (nn _), show ((j : Int) < (l.length : Int)) from by omega, if_true, hrd]
      exact Ev.bind (spec_l03Points_ev s.f2 (by omega)) (Ev.now _)
theorem clone_v (ps : List S37) (h : ps.length < 8796093022208) : slices_Clone_impl_Point_impl_Point.f ps = some ps := by simp [slices_Clone_impl_Point_impl_Point.f, h]
theorem impl_SeriesOf_ev (l : List S81) (hx : l.length < 4611686018427387904) (hf : ∀ s ∈ l, fitS s) (a b : ByteArray) : Ev (fun k => impl_SeriesOf.f k l a b) (serOf l a b) := by
  unfold impl_SeriesOf.f serOf
  refine Ev.bind (impl_StoreOk_ev l hx hf) ?_
  cases hs : storeOk l
  · simp only [if_neg no_ft]; exact Ev.now _
  · simp only [if_true]
    refine Ev.bind (impl_pointsOf_l0_ev l hx a b l [] rfl) ?_
    cases h2 : l.find? (isNamed a b) with
    | none =>
      simp only [clone_v [] (by decide), Option.bind_some, List.length_nil]
      exact Ev.now _
    | some s =>
      have hsl := serOk_len (storeOk_all hs s (find_mem h2))
      simp only [clone_v s.f2 (by omega), Option.bind_some, show decide ((s.f2.length : Int) > 0) = true from by simp; omega]
      exact Ev.now _
def isVal (x : Int) : Bool := inB x (-1000000000) 1000000000
def cutV (x : Int) : Int × Bool := if x > 1000000000 then (1000000000, true) else if x < -1000000000 then (-1000000000, true) else (x, false)
def addF : Int × Bool → List Int → Int × Bool
  | acc, [] => acc
  | acc, x :: r => addF ((cutV (acc.1 + x)).1, acc.2 || (cutV (acc.1 + x)).2) r
def addV (l : List Int) : Int × Bool := if (l.length : Int) > 300 then (0, true) else if l.all isVal = true then addF (0, false) l else (0, true)
theorem l01Value_v (x : Int) : spec_l01Value.f x = some (isVal x) := by simp [spec_l01Value.f, l01In_v, isVal]
theorem isValue_v (x : Int) : impl_isValue.f x = some (isVal x) := by simp [impl_isValue.f, in_v, isVal]
theorem specCut_v (x : Int) : spec_CutValue.f x = some (cutV x) := by
  unfold spec_CutValue.f cutV
  by_cases h : x > 1000000000
  · simp only [h, if_true]
  · by_cases h2 : x < -1000000000 <;> simp only [h, h2, if_true, if_false]
theorem implCut_v (x : Int) : impl_CutValue.f x = some (cutV x) := by
  unfold impl_CutValue.f cutV
  have h1 : mn (mx x (-1000000000)) 1000000000 = (if x > 1000000000 then 1000000000 else if x < -1000000000 then -1000000000 else x) := by
    unfold mn mx
    repeat' split
    all_goals omega
  rw [h1]
  by_cases h : x > 1000000000
  · have : ((1000000000 : Int) != x) = true := by simp; omega
    simp only [h, if_true, this]
  · by_cases h2 : x < -1000000000
    · have : ((-1000000000 : Int) != x) = true := by simp; omega
      simp only [h, h2, if_true, if_false, this]
    · simp only [h, h2, if_false, bne_self_eq_false]
theorem cutV_range (x : Int) : -1000000000 ≤ (cutV x).1 ∧ (cutV x).1 ≤ 1000000000 := by
  unfold cutV
  split
  · simp
  · split
    · simp
    · exact ⟨by show _ ≤ x; omega, by show x ≤ _; omega⟩
theorem rd_mid (pre suf : List Int) (x : Int) : rd (pre ++ x :: suf) (pre.length : Int) = x := by simp [rd]

theorem isVal_range {x : Int} (h : isVal x = true) : -1000000000 ≤ x ∧ x ≤ 1000000000 := by simpa [isVal, inB] using h
theorem spec_Add_l1_ev (xs : List Int) (hx : xs.length ≤ 300) (ha : xs.all isVal = true) : ∀ suf pre (s : Int) (c : Bool), xs = pre ++ suf → -1000000000 ≤ s → s ≤ 1000000000 → Ev (fun k => spec_AddValues.l1 k xs s c (pre.length : Int)) (addF (s, c) suf) := by
  intro suf
  induction suf with
  | nil =>
    intro pre s c h h1 h2
    refine Ev.step (fun k => by rw [spec_AddValues.l1]) ?_
    have hlt : ¬ ((pre.length : Int) < (xs.length : Int)) := by rw [h]; simp
    simp only [if_neg hlt, addF]
    exact Ev.now _
  | cons x suf ih =>
    intro pre s c h h1 h2
    refine Ev.step (fun k => by rw [spec_AddValues.l1]) ?_
    have hlt : ((pre.length : Int) < (xs.length : Int)) := by rw [h]; exact lt_mid _ _ _
    have hw := wrapn pre.length (by omega)
    have hrd : rd xs (pre.length : Int) = x := by rw [h]; exact rd_mid _ _ _
    have hv := isVal_range (List.all_eq_true.1 ha x (by rw [h]; simp))
    have hs := wrap_small (s + x) (by omega) (by omega)
    have hc := cutV_range (s + x)
    simp only [if_pos hlt, if_pos (nn _), hrd, hw, hs, specCut_v, Option.bind_some, addF]
    have hr := ih (pre ++ [x]) (cutV (s + x)).1 (c || (cutV (s + x)).2) (by rw [h]; simp) hc.1 hc.2
    rw [List.length_append, List.length_singleton] at hr
    cases c
    · simp only [if_neg no_ft]; exact hr
    · simp only [if_true]; exact hr
theorem spec_Add_l0_ev (xs : List Int) (hx : xs.length ≤ 300) : ∀ suf pre, xs = pre ++ suf → (xs.all isVal = true → pre.all isVal = true) → pre.all isVal = true → Ev (fun k => spec_AddValues.l0 k xs 0 false (pre.length : Int)) (if suf.all isVal = true then addF (0, false) xs else (0, true)) := by
  intro suf
  induction suf with
  | nil =>
    intro pre h _ hp
    refine Ev.step (fun k => by rw [spec_AddValues.l0]) ?_
    have hlt : ¬ ((pre.length : Int) < (xs.length : Int)) := by rw [h]; simp
    simp only [if_neg hlt, List.all_nil, if_true]
    exact spec_Add_l1_ev xs hx (by rw [h, List.append_nil]; exact hp) xs [] 0 false rfl (by decide) (by decide)
  | cons x suf ih =>
    intro pre h h0 hp
    refine Ev.step (fun k => by rw [spec_AddValues.l0]) ?_
    have hlt : ((pre.length : Int) < (xs.length : Int)) := by rw [h]; exact lt_mid _ _ _
    have hw := wrapn pre.length (by omega)
    have hrd : rd xs (pre.length : Int) = x := by rw [h]; exact rd_mid _ _ _
    simp only [if_pos hlt, if_pos (nn _), hrd, hw, l01Value_v, Option.bind_some, List.all_cons]
    rcases Bool.eq_false_or_eq_true (isVal x) with hv | hv
    rotate_left
    · simp only [hv, if_neg no_ft, Bool.false_and]; exact Ev.now _
    · simp only [hv, if_true, Bool.true_and]
      have hpx : (pre ++ [x]).all isVal = true := by rw [List.all_append, hp]; simp [hv]
      have hr := ih (pre ++ [x]) (by rw [h]; simp) (fun _ => hpx) hpx
      rw [List.length_append, List.length_singleton] at hr
      exact hr
theorem spec_Add_ev (xs : List Int) : Ev (fun k => spec_AddValues.f k xs) (addV xs) := by
  unfold spec_AddValues.f addV
  by_cases c : (xs.length : Int) > 300
  · simp only [c, if_true]; exact Ev.now _
  · simp only [c, if_false]
    exact spec_Add_l0_ev xs (by omega) xs [] rfl (fun _ => rfl) rfl
theorem impl_Add_l0_ev (xs : List Int) (hx : xs.length ≤ 300) : ∀ suf pre (s : Int) (c : Bool), xs = pre ++ suf → -1000000000 ≤ s → s ≤ 1000000000 → Ev (fun k => impl_AddValues.l0 k s c xs (xs.length : Int) (pre.length : Int)) (if suf.all isVal = true then addF (s, c) suf else (0, true)) := by
  intro suf
  induction suf with
  | nil =>
    intro pre s c h h1 h2
    refine Ev.step (fun k => by rw [impl_AddValues.l0]) ?_
    have hlt : ¬ ((pre.length : Int) < (xs.length : Int)) := by rw [h]; simp
    simp only [if_neg hlt, addF, List.all_nil, if_true]
    exact Ev.now _
  | cons x suf ih =>
    intro pre s c h h1 h2
    refine Ev.step (fun k => by rw [impl_AddValues.l0]) ?_
    have hlt : ((pre.length : Int) < (xs.length : Int)) := by rw [h]; exact lt_mid _ _ _
    have hw := wrapn pre.length (by omega)
    have hrd : rd xs (pre.length : Int) = x := by rw [h]; exact rd_mid _ _ _
    simp only [if_pos hlt, if_pos (nn _), hrd, hw, isValue_v, Option.bind_some, List.all_cons]
    rcases Bool.eq_false_or_eq_true (isVal x) with hv | hv
    rotate_left
    · simp only [hv, if_neg no_ft, Bool.false_and]; exact Ev.now _
    · have hv' := isVal_range hv
      have hs := wrap_small (s + x) (by omega) (by omega)
      have hc := cutV_range (s + x)
      simp only [hv, if_true, Bool.true_and, hs, implCut_v, Option.bind_some, addF]
      have hr := ih (pre ++ [x]) (cutV (s + x)).1 (c || (cutV (s + x)).2) (by rw [h]; simp) hc.1 hc.2
      rw [List.length_append, List.length_singleton] at hr
      cases c
      · simp only [if_neg no_ft]; exact hr
      · simp only [if_true]; exact hr
theorem impl_Add_ev (xs : List Int) : Ev (fun k => impl_AddValues.f k xs) (addV xs) := by
  unfold impl_AddValues.f addV
  by_cases c : (xs.length : Int) > 300
  · simp only [c, if_true]; exact Ev.now _
  · simp only [c, if_false]
    exact impl_Add_l0_ev xs (by omega) xs [] 0 false rfl (by decide) (by decide)
def flV (a b : Int) : Int := (spec_FloorDiv.f a b).getD 0
theorem specFl_v (a b : Int) : spec_FloorDiv.f a b = some (flV a b) := by
  unfold flV spec_FloorDiv.f
  by_cases h : b < 1
  · simp only [h, if_true, Option.getD_some]
  · simp only [h, if_false, show ¬ (b = 0) from by omega]
    split <;> rfl
theorem implFl_v (a b : Int) : impl_FloorDiv.f a b = some (flV a b) := by
  rw [← specFl_v]
  rfl
def meanV (l : List Int) : Int × Bool := if (l.length : Int) = 0 then (0, false) else if (addV l).2 = true then (0, false) else (flV (addV l).1 (l.length : Int), true)
theorem spec_MeanOf_ev (xs : List Int) : Ev (fun k => spec_MeanOf.f k xs) (meanV xs) := by
  unfold spec_MeanOf.f meanV
  refine Ev.bind (spec_Add_ev xs) ?_
  by_cases c : (xs.length : Int) = 0
  · simp only [c, if_true]; exact Ev.now _
  · simp only [c, if_false]
    cases (addV xs).2
    · simp only [if_neg no_ft, specFl_v, Option.bind_some]; exact Ev.now _
    · simp only [if_true]; exact Ev.now _
theorem impl_MeanOf_ev (xs : List Int) : Ev (fun k => impl_MeanOf.f k xs) (meanV xs) := by
  unfold impl_MeanOf.f meanV
  refine Ev.bind (impl_Add_ev xs) ?_
  by_cases c : (xs.length : Int) = 0
  · simp only [c, if_true]; exact Ev.now _
  · simp only [c, if_false]
    cases (addV xs).2
    · simp only [if_neg no_ft, implFl_v, Option.bind_some]; exact Ev.now _
    · simp only [if_true]; exact Ev.now _
def within (lo hi : Int) (p : S37) : Bool := decide (lo < p.f0) && decide (p.f0 ≤ hi)
theorem spec_Av_l0_ev (lo hi : Int) (ps : List S37) (hp : ps.length < 8796093022208) : ∀ suf pre (acc : List Int), ps = pre ++ suf → acc.length ≤ pre.length → Ev (fun k => spec_AverageOf.l0 k lo hi acc ps (pre.length : Int)) (meanV (acc ++ (suf.filter (within lo hi)).map (·.f1))) := by
  intro suf
  induction suf with
  | nil =>
    intro pre acc h ha
    refine Ev.step (fun k => by rw [spec_AverageOf.l0]) ?_
    have hlt : ¬ ((pre.length : Int) < (ps.length : Int)) := by rw [h]; simp
    simp only [if_neg hlt, List.filter_nil, List.map_nil, List.append_nil]
    exact Ev.bind (spec_MeanOf_ev acc) (Ev.now _)
  | cons p suf ih =>
    intro pre acc h ha
    refine Ev.step (fun k => by rw [spec_AverageOf.l0]) ?_
    have hlt : ((pre.length : Int) < (ps.length : Int)) := by rw [h]; exact lt_mid _ _ _
    have hw := wrapn pre.length (by omega)
    have hrd : rd_T37 ps (pre.length : Int) = p := by rw [h]; exact rdP_mid _ _ _
    have hb : acc.length < 17592186044416 := by omega
    simp only [if_pos hlt, if_pos (nn _), hrd, hw, if_pos hb]
    have hr := fun acc ha => ih (pre ++ [p]) acc (by rw [h]; simp) ha
    simp only [List.length_append, List.length_singleton] at hr
    by_cases c1 : p.f0 > lo
    · by_cases c2 : p.f0 ≤ hi
      · have e : within lo hi p = true := by simp [within, c2]; omega
        simp only [c1, c2, if_true, List.filter_cons, e, List.map_cons]
        have := hr (acc ++ [p.f1]) (by rw [List.length_append, List.length_singleton]; omega)
        rw [List.append_assoc] at this
        exact this
      · have e : within lo hi p = false := by simp [within]; omega
        simp only [c1, c2, if_true, if_false, List.filter_cons, e, if_neg no_ft]
        exact hr acc (by omega)
    · have e : within lo hi p = false := by simp [within]; omega
      simp only [c1, if_false, List.filter_cons, e, if_neg no_ft]
      exact hr acc (by omega)
theorem impl_Av_l0_ev (lo hi : Int) (ps : List S37) (hp : ps.length < 8796093022208) : ∀ suf pre (acc : List Int), ps = pre ++ suf → acc.length ≤ pre.length → Ev (fun k => impl_AverageOf.l0 k lo hi acc ps (ps.length : Int) (pre.length : Int)) (meanV (acc ++ (suf.filter (within lo hi)).map (·.f1))) := by
  intro suf
  induction suf with
  | nil =>
    intro pre acc h ha
    refine Ev.step (fun k => by rw [impl_AverageOf.l0]) ?_
    have hlt : ¬ ((pre.length : Int) < (ps.length : Int)) := by rw [h]; simp
    simp only [if_neg hlt, List.filter_nil, List.map_nil, List.append_nil]
    exact Ev.bind (impl_MeanOf_ev acc) (Ev.now _)
  | cons p suf ih =>
    intro pre acc h ha
    refine Ev.step (fun k => by rw [impl_AverageOf.l0]) ?_
    have hlt : ((pre.length : Int) < (ps.length : Int)) := by rw [h]; exact lt_mid _ _ _
    have hw := wrapn pre.length (by omega)
    have hrd : rd_T37 ps (pre.length : Int) = p := by rw [h]; exact rdP_mid _ _ _
    have hb : acc.length < 17592186044416 := by omega
    simp only [if_pos hlt, if_pos (nn _), hrd, hw, if_pos hb]
    have hr := fun acc ha => ih (pre ++ [p]) acc (by rw [h]; simp) ha
    simp only [List.length_append, List.length_singleton] at hr
    by_cases c1 : p.f0 > lo
    · by_cases c2 : p.f0 ≤ hi
      · have e : within lo hi p = true := by simp [within, c2]; omega
        simp only [c1, c2, if_true, List.filter_cons, e, List.map_cons]
        have := hr (acc ++ [p.f1]) (by rw [List.length_append, List.length_singleton]; omega)
        rw [List.append_assoc] at this
        exact this
      · have e : within lo hi p = false := by simp [within]; omega
        simp only [c1, c2, if_true, if_false, List.filter_cons, e, if_neg no_ft]
        exact hr acc (by omega)
    · have e : within lo hi p = false := by simp [within]; omega
      simp only [c1, if_false, List.filter_cons, e, if_neg no_ft]
      exact hr acc (by omega)
def avV (l : List S81) (a b : ByteArray) (lo hi : Int) : Int × Bool := meanV (((serOf l a b).1.filter (within lo hi)).map (·.f1))
theorem serOf_len (l : List S81) (a b : ByteArray) : (serOf l a b).1.length ≤ 12 := by
  unfold serOf
  cases hs : storeOk l
  · simp
  · simp only [if_true]
    cases h2 : l.find? (isNamed a b) with
    | none => simp
    | some s => exact (serOk_len (storeOk_all hs s (find_mem h2))).2
theorem spec_AverageOf_ev (l : List S81) (hx : l.length < 4611686018427387904) (hf : ∀ s ∈ l, fitS s) (a b : ByteArray) (lo hi : Int) : Ev (fun k => spec_AverageOf.f k l a b lo hi) (avV l a b lo hi) := by
  unfold spec_AverageOf.f avV
  refine Ev.bind (spec_SeriesOf_ev l hx hf a b) ?_
  have := serOf_len l a b
  exact spec_Av_l0_ev lo hi _ (by omega) _ [] [] rfl (Nat.le_refl _)
theorem impl_AverageOf_ev (l : List S81) (hx : l.length < 4611686018427387904) (hf : ∀ s ∈ l, fitS s) (a b : ByteArray) (lo hi : Int) : Ev (fun k => impl_AverageOf.f k l a b lo hi) (avV l a b lo hi) := by
  unfold impl_AverageOf.f avV
  refine Ev.bind (impl_SeriesOf_ev l hx hf a b) ?_
  have := serOf_len l a b
  exact impl_Av_l0_ev lo hi _ (by omega) _ [] [] rfl (Nat.le_refl _)
end Go.Proofs.Ytplekidnlofioaa.Q
namespace Go.Proofs.Ytplekidnlofioaa.Q
open Go.RowKit Go.Proofs.YtplekidnlofioaaW.PrintWords Go.Proofs.YtplekidnlofioaaW.PrintLast
def podOk (p : S147) : Bool := nameOk p.f0 && (inB p.f1 0 1000000000 && inB p.f2 0 2)
def poFrom : Option S147 → List S147 → Bool
  | _, [] => true
  | prev, p :: r => podOk p && (match prev with | none => true | some q => lessB q.f0 p.f0) && poFrom (some p) r
def podsOk (l : List S147) : Bool := decide ((l.length : Int) ≤ 12) && poFrom none l
def fitP (p : S147) : Prop := p.f0.size < 4611686018427387904
theorem rdPd_mid (pre suf : List S147) (p : S147) : rd_T147 (pre ++ p :: suf) (pre.length : Int) = p := by simp [rd_T147]
theorem spec_PodOk_ev (p : S147) : Ev (fun k => spec_PodOk.f k p.f0 p.f1 p.f2 p.f3) (podOk p) := by
  unfold spec_PodOk.f podOk
  refine Ev.bind (spec_NameOk_ev p.f0) ?_
  cases nameOk p.f0
  · simp only [if_neg no_ft, Bool.false_and]; exact Ev.now _
  · simp only [if_true, Bool.true_and, l02Tick_v, l01In_v, Option.bind_some]
    cases inB p.f1 0 1000000000
    · simp only [if_neg no_ft, Bool.false_and]; exact Ev.now _
    · simp only [if_true, Bool.true_and]; exact Ev.now _
theorem impl_PodOk_ev (p : S147) (h : fitP p) : Ev (fun k => impl_PodOk.f k p.f0 p.f1 p.f2 p.f3) (podOk p) := by
  unfold impl_PodOk.f podOk
  refine Ev.bind (impl_NameOk_ev p.f0 h) ?_
  cases nameOk p.f0
  · simp only [if_neg no_ft, Bool.false_and]; exact Ev.now _
  · simp only [if_true, Bool.true_and, isTick_v, in_v, Option.bind_some]
    cases inB p.f1 0 1000000000
    · simp only [if_neg no_ft, Bool.false_and]; exact Ev.now _
    · simp only [if_true, Bool.true_and]; exact Ev.now _
theorem spec_PodsOk_l0_ev (xs : List S147) (hx : xs.length < 4611686018427387904) (hf : ∀ s ∈ xs, fitP s) : ∀ suf pre, xs = pre ++ suf → Ev (fun k => spec_PodsOk.l0 k xs (pre.length : Int)) (poFrom pre.getLast? suf) := by
  intro suf
  induction suf with
  | nil =>
    intro pre h
    refine Ev.step (fun k => by rw [spec_PodsOk.l0]) ?_
    have hlt : ¬ ((pre.length : Int) < (xs.length : Int)) := by rw [h]; simp
    simp only [if_neg hlt, poFrom]
    exact Ev.now _
  | cons s suf ih =>
    intro pre h
    refine Ev.step (fun k => by rw [spec_PodsOk.l0]) ?_
    have hlt : ((pre.length : Int) < (xs.length : Int)) := by rw [h]; exact lt_mid _ _ _
    have hl : pre.length < xs.length := by omega
    have hw := wrapn pre.length (by omega)
    have hr := ih (pre ++ [s]) (by rw [h]; simp)
    rw [List.length_append, List.length_singleton, List.getLast?_concat] at hr
    have hrd : rd_T147 xs (pre.length : Int) = s := by rw [h]; exact rdPd_mid _ _ _
    simp only [if_pos hlt, if_pos (nn _), hrd, hw, poFrom]
    refine Ev.bind (spec_PodOk_ev s) ?_
    cases podOk s
    · simp only [if_neg no_ft, Bool.false_and]; exact Ev.now _
    · simp only [if_true, Bool.true_and]
      rcases List.eq_nil_or_concat pre with rfl | ⟨pre', q, rfl⟩
      · simp only [List.length_nil, List.getLast?_nil, Bool.true_and]
        simp only [show ¬ (((0 : Nat) : Int) > 0) from by decide, if_false]
        exact hr
      · rw [List.concat_eq_append] at *
        simp only [List.length_append, List.length_singleton, List.getLast?_concat] at *
        have hwp := wrap_pred pre'.length (by omega)
        have hq : rd_T147 xs (pre'.length : Int) = q := by rw [h]; rw [List.append_assoc]; exact rdPd_mid _ _ _
        have h1 : (((pre'.length + 1 : Nat)) : Int) > 0 := by omega
        have h2 : ((pre'.length : Nat) : Int) < (xs.length : Int) := by omega
        simp only [h1, if_true, hwp, if_pos (nn _), h2, hq]
        refine Ev.bind (spec_l02Less_ev q.f0 s.f0 (hf q (by rw [h]; simp))) ?_
        cases lessB q.f0 s.f0
        · simp only [if_neg no_ft, Bool.false_and]; exact Ev.now _
        · simp only [if_true, Bool.true_and]; exact hr
theorem spec_PodsOk_ev (xs : List S147) (hf : ∀ s ∈ xs, fitP s) : Ev (fun k => spec_PodsOk.f k xs) (podsOk xs) := by
  unfold spec_PodsOk.f podsOk
  by_cases c : (xs.length : Int) > 12
  · simp only [c, if_true, show decide ((xs.length : Int) ≤ 12) = false from by simp; omega, Bool.false_and]; exact Ev.now _
  · simp only [c, if_false, show decide ((xs.length : Int) ≤ 12) = true from by simp; omega, Bool.true_and]
    exact spec_PodsOk_l0_ev xs (by omega) hf xs [] rfl
theorem impl_PodsOk_l0_ev (xs : List S147) (hx : xs.length < 4611686018427387904) (hf : ∀ s ∈ xs, fitP s) : ∀ suf pre, xs = pre ++ suf → Ev (fun k => impl_PodsOk.l0 k xs xs (xs.length : Int) (pre.length : Int)) (poFrom pre.getLast? suf && decide ((xs.length : Int) ≤ 12)) := by
  intro suf
  induction suf with
  | nil =>
    intro pre h
    refine Ev.step (fun k => by rw [impl_PodsOk.l0]) ?_
    have hlt : ¬ ((pre.length : Int) < (xs.length : Int)) := by rw [h]; simp
    simp only [if_neg hlt, poFrom, Bool.true_and]
    exact Ev.now _
  | cons s suf ih =>
    intro pre h
    refine Ev.step (fun k => by rw [impl_PodsOk.l0]) ?_
    have hlt : ((pre.length : Int) < (xs.length : Int)) := by rw [h]; exact lt_mid _ _ _
    have hl : pre.length < xs.length := by omega
    have hw := wrapn pre.length (by omega)
    have hr := ih (pre ++ [s]) (by rw [h]; simp)
    rw [List.length_append, List.length_singleton, List.getLast?_concat] at hr
    have hrd : rd_T147 xs (pre.length : Int) = s := by rw [h]; exact rdPd_mid _ _ _
    simp only [if_pos hlt, if_pos (nn _), hrd, hw, poFrom]
    refine Ev.bind (impl_PodOk_ev s (hf s (by rw [h]; simp))) ?_
    cases podOk s
    · simp only [if_neg no_ft, Bool.false_and]; exact Ev.now _
    · simp only [if_true, Bool.true_and]
      rcases List.eq_nil_or_concat pre with rfl | ⟨pre', q, rfl⟩
      · simp only [List.length_nil, List.getLast?_nil, Bool.true_and]
        simp only [show ¬ (((0 : Nat) : Int) > 0) from by decide, if_false]
        exact hr
      · rw [List.concat_eq_append] at *
        simp only [List.length_append, List.length_singleton, List.getLast?_concat] at *
        have hwp := wrap_pred pre'.length (by omega)
        have hq : rd_T147 xs (pre'.length : Int) = q := by rw [h]; rw [List.append_assoc]; exact rdPd_mid _ _ _
        have h1 : (((pre'.length + 1 : Nat)) : Int) > 0 := by omega
        have h2 : ((pre'.length : Nat) : Int) < (xs.length : Int) := by omega
        simp only [h1, if_true, hwp, if_pos (nn _), h2, hq]
        unfold lessB
        cases Op.bytesLess q.f0.toList s.f0.toList
        · simp only [if_neg no_ft, Bool.false_and]; exact Ev.now _
        · simp only [if_true, Bool.true_and]; exact hr
theorem impl_PodsOk_ev (xs : List S147) (hx : xs.length < 4611686018427387904) (hf : ∀ s ∈ xs, fitP s) : Ev (fun k => impl_PodsOk.f k xs) (podsOk xs) := by
  unfold impl_PodsOk.f podsOk
  have := impl_PodsOk_l0_ev xs hx hf xs [] rfl
  rw [Bool.and_comm]
  exact this
def rulesOk (x y z : Int) : Bool := inB x 0 1000 && (inB y 0 1000 && inB z 0 1000)
theorem spec_RulesOk_v (x y z : Int) : spec_RulesOk.f x y z = some (rulesOk x y z) := by
  unfold spec_RulesOk.f rulesOk
  simp only [l01In_v, Option.bind_some]
  cases inB x 0 1000 <;> cases inB y 0 1000 <;> simp
theorem impl_RulesOk_v (x y z : Int) : impl_RulesOk.f x y z = some (rulesOk x y z) := by
  unfold impl_RulesOk.f rulesOk
  simp only [in_v, Option.bind_some]
  cases inB x 0 1000 <;> cases inB y 0 1000 <;> simp
def lastP (ps : List S37) : S37 := rd_T37 ps (wrap64 ((ps.length : Int) - 1))
def latV (l : List S81) (a b : ByteArray) : Int × Int × Bool := if (serOf l a b).2 = true then ((lastP (serOf l a b).1).f0, (lastP (serOf l a b).1).f1, true) else (0, 0, false)
theorem serOf_some {l : List S81} {a b : ByteArray} (h : (serOf l a b).2 = true) : 1 ≤ (serOf l a b).1.length := by
  unfold serOf at h ⊢
  cases hs : storeOk l
  · simp [hs] at h
  · rw [hs] at h
    simp only [if_true] at h ⊢
    cases h2 : l.find? (isNamed a b) with
    | none => rw [h2] at h; simp at h
    | some s => exact (serOk_len (storeOk_all hs s (find_mem h2))).1
theorem lat_idx {l : List S81} {a b : ByteArray} (h : (serOf l a b).2 = true) : 0 ≤ wrap64 (((serOf l a b).1.length : Int) - 1) ∧ wrap64 (((serOf l a b).1.length : Int) - 1) < ((serOf l a b).1.length : Int) := by
  have h1 := serOf_some h
  have h2 := serOf_len l a b
  rw [wrap_small _ (by omega) (by omega)]
  omega
theorem spec_LatestOf_ev (l : List S81) (hx : l.length < 4611686018427387904) (hf : ∀ s ∈ l, fitS s) (a b : ByteArray) : Ev (fun k => spec_LatestOf.f k l a b) (latV l a b) := by
  unfold spec_LatestOf.f latV lastP
  refine Ev.bind (spec_SeriesOf_ev l hx hf a b) ?_
  by_cases h : (serOf l a b).2 = true
  · have hi := lat_idx h
    simp only [if_pos h, if_pos hi.1, if_pos hi.2]; exact Ev.now _
  · simp only [if_neg h]; exact Ev.now _
theorem impl_LatestOf_ev (l : List S81) (hx : l.length < 4611686018427387904) (hf : ∀ s ∈ l, fitS s) (a b : ByteArray) : Ev (fun k => impl_LatestOf.f k l a b) (latV l a b) := by
  unfold impl_LatestOf.f latV lastP
  refine Ev.bind (impl_SeriesOf_ev l hx hf a b) ?_
  by_cases h : (serOf l a b).2 = true
  · have hi := lat_idx h
    simp only [if_pos h, if_pos hi.1, if_pos hi.2]; exact Ev.now _
  · simp only [if_neg h]; exact Ev.now _
def readyV (p : S147) (now x : Int) : Int := if p.f3 = true then (if wrap64 (p.f1 + x) > now then 1 else 0) else 1
def classV (p : S147) (l : List S81) (a : ByteArray) (now x y z : Int) : Int :=
  if (podOk p && (rulesOk x y z && (inB now 0 1000000000 && storeOk l))) = true then
    (if p.f2 = 0 then (if (latV l p.f0 a).2.2 = true then (if wrap64 ((latV l p.f0 a).1 + y) < now then 2 else readyV p now x) else 2) else 3)
  else -1
theorem spec_j1_ev (p : S147) (b : Bool) (now x y z : Int) : Ev (fun k => spec_ClassOf.j1 k now b p.f0 p.f1 p.f2 p.f3 x y z) (if b = true then 2 else readyV p now x) := by
  refine Ev.step (fun k => by rw [spec_ClassOf.j1]) ?_
  unfold readyV
  cases b
  · simp only [if_neg no_ft]
    cases p.f3
    · simp only [if_neg no_ft]; exact Ev.now _
    · simp only [if_true]
      split
      · exact Ev.now _
      · exact Ev.now _
  · simp only [if_true]; exact Ev.now _
theorem impl_j1_ev (p : S147) (b : Bool) (now x y z : Int) : Ev (fun k => impl_ClassOf.j1 k now b p.f0 p.f1 p.f2 p.f3 x y z) (if b = true then 2 else readyV p now x) := by
  refine Ev.step (fun k => by rw [impl_ClassOf.j1]) ?_
  unfold readyV
  cases b
  · simp only [if_neg no_ft]
    cases p.f3
    · simp only [if_neg no_ft]; exact Ev.now _
    · simp only [if_true]
      split
      · exact Ev.now _
      · exact Ev.now _
  · simp only [if_true]; exact Ev.now _
theorem spec_ClassOf_ev (p : S147) (l : List S81) (hx : l.length < 4611686018427387904) (hf : ∀ s ∈ l, fitS s) (a : ByteArray) (now x y z : Int) : Ev (fun k => spec_ClassOf.f k p.f0 p.f1 p.f2 p.f3 l a now x y z) (classV p l a now x y z) := by
  have hj : ∀ b : Bool, Ev (fun k => spec_ClassOf.j0 k l a now (!b) p.f0 p.f1 p.f2 p.f3 x y z) (if b = true then (if p.f2 = 0 then (if (latV l p.f0 a).2.2 = true then (if wrap64 ((latV l p.f0 a).1 + y) < now then 2 else readyV p now x) else 2) else 3) else -1) := by
    intro b
    refine Ev.step (fun k => by rw [spec_ClassOf.j0]) ?_
    cases b
    · simp only [Bool.not_false, if_true, if_neg no_ft]; exact Ev.now _
    · simp only [Bool.not_true, if_true, if_neg no_ft]
      by_cases c : p.f2 = 0
      · simp only [c, if_true]
        refine Ev.bind (spec_LatestOf_ev l hx hf p.f0 a) ?_
        cases (latV l p.f0 a).2.2
        · simp only [if_neg no_ft]
          have := spec_j1_ev p true now x y z
          rw [c] at this
          simp only [if_true] at this
          exact this
        · simp only [if_true]
          have := spec_j1_ev p (decide (wrap64 ((latV l p.f0 a).1 + y) < now)) now x y z
          rw [c] at this
          simp only [decide_eq_true_eq] at this
          exact this
      · simp only [c, if_false]; exact Ev.now _
  have hj0 := hj false
  have hj1 := hj true
  simp only [Bool.not_false, Bool.not_true, if_neg no_ft, if_true] at hj0 hj1
  unfold spec_ClassOf.f classV
  refine Ev.bind (spec_PodOk_ev p) ?_
  cases podOk p
  · simp only [if_neg no_ft, Bool.false_and]; exact hj0
  · simp only [if_true, Bool.true_and, spec_RulesOk_v, Option.bind_some]
    cases rulesOk x y z
    · simp only [if_neg no_ft, Bool.false_and]; exact hj0
    · simp only [if_true, Bool.true_and, l02Tick_v, Option.bind_some]
      cases inB now 0 1000000000
      · simp only [if_neg no_ft, Bool.false_and]; exact hj0
      · simp only [if_true, Bool.true_and]
        refine Ev.bind (spec_StoreOk_ev l hx hf) ?_
        exact hj _
theorem impl_ClassOf_ev (p : S147) (hp : fitP p) (l : List S81) (hx : l.length < 4611686018427387904) (hf : ∀ s ∈ l, fitS s) (a : ByteArray) (now x y z : Int) : Ev (fun k => impl_ClassOf.f k p.f0 p.f1 p.f2 p.f3 l a now x y z) (classV p l a now x y z) := by
  have hj : ∀ b : Bool, Ev (fun k => impl_ClassOf.j0 k l a now (!b) p.f0 p.f1 p.f2 p.f3 x y z) (if b = true then (if p.f2 = 0 then (if (latV l p.f0 a).2.2 = true then (if wrap64 ((latV l p.f0 a).1 + y) < now then 2 else readyV p now x) else 2) else 3) else -1) := by
    intro b
    refine Ev.step (fun k => by rw [impl_ClassOf.j0]) ?_
    cases b
    · simp only [Bool.not_false, if_true, if_neg no_ft]; exact Ev.now _
    · simp only [Bool.not_true, if_true, if_neg no_ft]
      refine Ev.bind (impl_LatestOf_ev l hx hf p.f0 a) ?_
      by_cases c : p.f2 = 0
      · simp only [c, if_true]
        cases (latV l p.f0 a).2.2
        · simp only [if_neg no_ft]
          have := impl_j1_ev p true now x y z
          rw [c] at this
          simp only [if_true] at this
          exact this
        · simp only [if_true]
          have := impl_j1_ev p (decide (wrap64 ((latV l p.f0 a).1 + y) < now)) now x y z
          rw [c] at this
          simp only [decide_eq_true_eq] at this
          exact this
      · simp only [c, if_false]; exact Ev.now _
  have hj0 := hj false
  have hj1 := hj true
  simp only [Bool.not_false, Bool.not_true, if_neg no_ft, if_true] at hj0 hj1
  unfold impl_ClassOf.f classV
  refine Ev.bind (impl_PodOk_ev p hp) ?_
  cases podOk p
  · simp only [if_neg no_ft, Bool.false_and]; exact hj0
  · simp only [if_true, Bool.true_and, impl_RulesOk_v, Option.bind_some]
    cases rulesOk x y z
    · simp only [if_neg no_ft, Bool.false_and]; exact hj0
    · simp only [if_true, Bool.true_and, isTick_v, Option.bind_some]
      cases inB now 0 1000000000
      · simp only [if_neg no_ft, Bool.false_and]; exact hj0
      · simp only [if_true, Bool.true_and]
        refine Ev.bind (impl_StoreOk_ev l hx hf) ?_
        exact hj _
def clsFrom (g : S147 → Int) : List Int → List S147 → List Int
  | acc, [] => acc
  | acc, p :: r => if g p < 0 then [] else clsFrom g (acc ++ [g p]) r
def classesV (ps : List S147) (l : List S81) (a : ByteArray) (now x y z : Int) : List Int := if podsOk ps = true then clsFrom (fun p => classV p l a now x y z) [] ps else []
theorem spec_Classes_l0_ev (ps : List S147) (hp : ps.length < 17592186044416) (l : List S81) (hx : l.length < 4611686018427387904) (hf : ∀ s ∈ l, fitS s) (a : ByteArray) (now x y z : Int) : ∀ suf pre (acc : List Int), ps = pre ++ suf → acc.length ≤ pre.length → Ev (fun k => spec_ClassesOf.l0 k ps l a now acc (pre.length : Int) x y z) (clsFrom (fun p => classV p l a now x y z) acc suf) := by
  intro suf
  induction suf with
  | nil =>
    intro pre acc h ha
    refine Ev.step (fun k => by rw [spec_ClassesOf.l0]) ?_
    have hlt : ¬ ((pre.length : Int) < (ps.length : Int)) := by rw [h]; simp
    simp only [if_neg hlt, clsFrom]
    exact Ev.now _
  | cons p suf ih =>
    intro pre acc h ha
    refine Ev.step (fun k => by rw [spec_ClassesOf.l0]) ?_
    have hlt : ((pre.length : Int) < (ps.length : Int)) := by rw [h]; exact lt_mid _ _ _
    have hw := wrapn pre.length (by omega)
    have hrd : rd_T147 ps (pre.length : Int) = p := by rw [h]; exact rdPd_mid _ _ _
    have hb : acc.length < 17592186044416 := by omega
    simp only [if_pos hlt, if_pos (nn _), hrd, hw, clsFrom, if_pos hb]
    refine Ev.bind (spec_ClassOf_ev p l hx hf a now x y z) ?_
    by_cases c : classV p l a now x y z < 0
    · simp only [c, if_true]; exact Ev.now _
    · simp only [c, if_false]
      have hr := ih (pre ++ [p]) (acc ++ [classV p l a now x y z]) (by rw [h]; simp) (by simp; omega)
      have e1 : (pre ++ [p]).length = pre.length + 1 := by simp
      rw [e1] at hr
      exact hr
theorem impl_Classes_l0_ev (ps : List S147) (hp : ps.length < 17592186044416) (hq : ∀ s ∈ ps, fitP s) (l : List S81) (hx : l.length < 4611686018427387904) (hf : ∀ s ∈ l, fitS s) (a : ByteArray) (now x y z : Int) : ∀ suf pre (acc : List Int), ps = pre ++ suf → acc.length ≤ pre.length → Ev (fun k => impl_ClassesOf.l0 k l a now acc ps (ps.length : Int) (pre.length : Int) x y z) (clsFrom (fun p => classV p l a now x y z) acc suf) := by
  intro suf
  induction suf with
  | nil =>
    intro pre acc h ha
    refine Ev.step (fun k => by rw [impl_ClassesOf.l0]) ?_
    have hlt : ¬ ((pre.length : Int) < (ps.length : Int)) := by rw [h]; simp
    simp only [if_neg hlt, clsFrom]
    exact Ev.now _
  | cons p suf ih =>
    intro pre acc h ha
    refine Ev.step (fun k => by rw [impl_ClassesOf.l0]) ?_
    have hlt : ((pre.length : Int) < (ps.length : Int)) := by rw [h]; exact lt_mid _ _ _
    have hw := wrapn pre.length (by omega)
    have hrd : rd_T147 ps (pre.length : Int) = p := by rw [h]; exact rdPd_mid _ _ _
    have hb : acc.length < 17592186044416 := by omega
    simp only [if_pos hlt, if_pos (nn _), hrd, hw, clsFrom, if_pos hb]
    refine Ev.bind (impl_ClassOf_ev p (hq p (by rw [h]; simp)) l hx hf a now x y z) ?_
    by_cases c : classV p l a now x y z < 0
    · simp only [c, if_true]; exact Ev.now _
    · simp only [c, if_false]
      have hr := ih (pre ++ [p]) (acc ++ [classV p l a now x y z]) (by rw [h]; simp) (by simp; omega)
      have e1 : (pre ++ [p]).length = pre.length + 1 := by simp
      rw [e1] at hr
      exact hr
theorem podsOk_len {ps : List S147} (h : podsOk ps = true) : ps.length ≤ 12 := by
  simp only [podsOk, Bool.and_eq_true, decide_eq_true_eq] at h
  omega
theorem spec_ClassesOf_ev (ps : List S147) (hq : ∀ s ∈ ps, fitP s) (l : List S81) (hx : l.length < 4611686018427387904) (hf : ∀ s ∈ l, fitS s) (a : ByteArray) (now x y z : Int) : Ev (fun k => spec_ClassesOf.f k ps l a now x y z) (classesV ps l a now x y z) := by
  unfold spec_ClassesOf.f classesV
  refine Ev.bind (spec_PodsOk_ev ps hq) ?_
  by_cases h : podsOk ps = true
  · simp only [if_pos h]
    have := podsOk_len h
    exact spec_Classes_l0_ev ps (by omega) l hx hf a now x y z ps [] [] rfl (Nat.le_refl _)
  · simp only [if_neg h]; exact Ev.now _
theorem impl_ClassesOf_ev (ps : List S147) (hp : ps.length < 4611686018427387904) (hq : ∀ s ∈ ps, fitP s) (l : List S81) (hx : l.length < 4611686018427387904) (hf : ∀ s ∈ l, fitS s) (a : ByteArray) (now x y z : Int) : Ev (fun k => impl_ClassesOf.f k ps l a now x y z) (classesV ps l a now x y z) := by
  unfold impl_ClassesOf.f classesV
  refine Ev.bind (impl_PodsOk_ev ps hp hq) ?_
  by_cases h : podsOk ps = true
  · simp only [if_pos h]
    have := podsOk_len h
    exact impl_Classes_l0_ev ps (by omega) hq l hx hf a now x y z ps [] [] rfl (Nat.le_refl _)
  · simp only [if_neg h]; exact Ev.now _
def cntV (c : Int) : List Int → Int
  | [] => 0
  | x :: r => (if x = c then 1 else 0) + cntV c r
theorem spec_Count_l0_ev (xs : List Int) (hx : xs.length < 1000000000) (c : Int) : ∀ suf pre (n : Int), xs = pre ++ suf → 0 ≤ n → n ≤ (pre.length : Int) → Ev (fun k => spec_CountClass.l0 k xs c n (pre.length : Int)) (n + cntV c suf) := by
  intro suf
  induction suf with
  | nil =>
    intro pre n h h0 h1
    refine Ev.step (fun k => by rw [spec_CountClass.l0]) ?_
    have hlt : ¬ ((pre.length : Int) < (xs.length : Int)) := by rw [h]; simp
    simp only [if_neg hlt, cntV, Int.add_zero]
    exact Ev.now _
  | cons x suf ih =>
    intro pre n h h0 h1
    refine Ev.step (fun k => by rw [spec_CountClass.l0]) ?_
    have hlt : ((pre.length : Int) < (xs.length : Int)) := by rw [h]; exact lt_mid _ _ _
    have hw := wrapn pre.length (by omega)
    have hrd : rd xs (pre.length : Int) = x := by rw [h]; exact rd_mid _ _ _
    have hr := fun n h0 h1 => ih (pre ++ [x]) n (by rw [h]; simp) h0 h1
    simp only [List.length_append, List.length_singleton] at hr
    simp only [if_pos hlt, if_pos (nn _), hrd, hw, cntV]
    rw [wrap_small (n + 1) (by omega) (by omega)]
    by_cases e : x = c
    · simp only [e, if_true]
      have := hr (n + 1) (by omega) (by omega)
      rw [Int.add_assoc] at this
      exact this
    · simp only [e, if_false, Int.zero_add]
      exact hr n h0 (by omega)
theorem spec_CountClass_ev (xs : List Int) (hx : xs.length < 1000000000) (c : Int) : Ev (fun k => spec_CountClass.f k xs c) (cntV c xs) := by
  unfold spec_CountClass.f
  have := spec_Count_l0_ev xs hx c xs [] 0 rfl (by decide) (by decide)
  rw [Int.zero_add] at this
  exact this
theorem impl_Count_l0_ev (xs : List Int) (hx : xs.length < 1000000000) (c : Int) : ∀ suf pre (n : Int), xs = pre ++ suf → 0 ≤ n → n ≤ (pre.length : Int) → Ev (fun k => impl_CountClass.l0 k c n xs (xs.length : Int) (pre.length : Int)) (n + cntV c suf) := by
  intro suf
  induction suf with
  | nil =>
    intro pre n h h0 h1
    refine Ev.step (fun k => by rw [impl_CountClass.l0]) ?_
    have hlt : ¬ ((pre.length : Int) < (xs.length : Int)) := by rw [h]; simp
    simp only [if_neg hlt, cntV, Int.add_zero]
    exact Ev.now _
  | cons x suf ih =>
    intro pre n h h0 h1
    refine Ev.step (fun k => by rw [impl_CountClass.l0]) ?_
    have hlt : ((pre.length : Int) < (xs.length : Int)) := by rw [h]; exact lt_mid _ _ _
    have hw := wrapn pre.length (by omega)
    have hrd : rd xs (pre.length : Int) = x := by rw [h]; exact rd_mid _ _ _
    have hr := fun n h0 h1 => ih (pre ++ [x]) n (by rw [h]; simp) h0 h1
    simp only [List.length_append, List.length_singleton] at hr
    simp only [if_pos hlt, if_pos (nn _), hrd, hw, cntV]
    rw [wrap_small (n + 1) (by omega) (by omega)]
    by_cases e : x = c
    · simp only [e, if_true]
      have := hr (n + 1) (by omega) (by omega)
      rw [Int.add_assoc] at this
      exact this
    · simp only [e, if_false, Int.zero_add]
      exact hr n h0 (by omega)
theorem impl_CountClass_ev (xs : List Int) (hx : xs.length < 1000000000) (c : Int) : Ev (fun k => impl_CountClass.f k xs c) (cntV c xs) := by
  unfold impl_CountClass.f
  have := impl_Count_l0_ev xs hx c xs [] 0 rfl (by decide) (by decide)
  rw [Int.zero_add] at this
  exact this
end Go.Proofs.Ytplekidnlofioaa.Q
namespace Go.Proofs.Ytplekidnlofioaa.Q
open Go.RowKit Go.Proofs.YtplekidnlofioaaW.PrintWords Go.Proofs.YtplekidnlofioaaW.PrintLast
def wP (s : S144) : Int := s.f0.size
def wPL : List S144 → Int
  | [] => 0
  | s :: r => wP s + wPL r
theorem wP_nn (s : S144) : 0 ≤ wP s := by unfold wP; omega
theorem wPL_nn : ∀ l, 0 ≤ wPL l
  | [] => by simp [wPL]
  | s :: r => by have := wP_nn s; have := wPL_nn r; simp only [wPL]; omega
def bigP (s : S144) : Prop := s.f0.size ≤ 140737488351232
theorem szPod_v (s : S144) (h : bigP s) (a : Int) (h0 : 0 ≤ a) (h1 : a ≤ 1048576) : laws_szPod.f s.f0 s.f1 s.f2 s.f3 a = some (cutN (a - wP s)) := by
  unfold bigP at h
  unfold laws_szPod.f wP
  rw [wrap_small (a - (s.f0.size : Int)) (by omega) (by omega)]
  by_cases c : a - (s.f0.size : Int) < 0
  · rw [if_pos c, cutN_neg (by omega)]
  · rw [if_neg c, cutN_nn (by omega)]
theorem rdLPd_mid (pre suf : List S144) (p : S144) : rd_T144 (pre ++ p :: suf) (pre.length : Int) = p := by simp [rd_T144]
theorem szPodS_l0_ev (xs : List S144) (hx : xs.length < 4611686018427387904) (hf : ∀ s ∈ xs, bigP s) : ∀ suf pre (a : Int), xs = pre ++ suf → 0 ≤ a → a ≤ 1048576 → Ev (fun k => laws_szPodS.l0 k xs a (pre.length : Int)) (cutN (a - wPL suf)) := by
  intro suf
  induction suf with
  | nil =>
    intro pre a h h0 h1
    refine Ev.step (fun k => by rw [laws_szPodS.l0]) ?_
    have hlt : ¬ ((pre.length : Int) < (xs.length : Int)) := by rw [h]; simp
    simp only [if_neg hlt, wPL, Int.sub_zero]
    rw [cutN_nn (by omega)]
    exact Ev.now _
  | cons s suf ih =>
    intro pre a h h0 h1
    refine Ev.step (fun k => by rw [laws_szPodS.l0]) ?_
    have hlt : ((pre.length : Int) < (xs.length : Int)) := by rw [h]; exact lt_mid _ _ _
    have hw := wrapn pre.length (by omega)
    have hrd : rd_T144 xs (pre.length : Int) = s := by rw [h]; exact rdLPd_mid _ _ _
    have hs := szPod_v s (hf s (by rw [h]; simp)) a h0 h1
    have n1 := wP_nn s
    have n2 := wPL_nn suf
    simp only [if_pos hlt, if_pos (nn _), hrd, hw, hs, Option.bind_some, wPL]
    by_cases c : a - wP s < 0
    · rw [cutN_neg c, cutN_neg (by omega)]
      simp only [show ((-1 : Int) < 0) from by decide, if_true]
      exact Ev.now _
    · rw [cutN_nn c]
      simp only [c, if_false]
      have hr := ih (pre ++ [s]) (a - wP s) (by rw [h]; simp) (by omega) (by omega)
      rw [List.length_append, List.length_singleton] at hr
      rw [show a - (wP s + wPL suf) = a - wP s - wPL suf from by omega]
      exact hr
theorem szPodS_ev (xs : List S144) (hx : xs.length ≤ 140737488351232) (hf : ∀ s ∈ xs, bigP s) (a : Int) (h0 : 0 ≤ a) (h1 : a ≤ 1048576) : Ev (fun k => laws_szPodS.f k xs a) (cutN (a - xs.length - wPL xs)) := by
  unfold laws_szPodS.f
  rw [wrap_small _ (by omega) (by omega)]
  have n2 := wPL_nn xs
  by_cases c : a - (xs.length : Int) < 0
  · simp only [c, if_true]
    rw [cutN_neg (by omega)]
    exact Ev.now _
  · simp only [c, if_false]
    exact szPodS_l0_ev xs (by omega) hf xs [] _ rfl (by omega) (by omega)
theorem wPL_mem : ∀ {l : List S144} {s : S144}, s ∈ l → wP s ≤ wPL l
  | x :: r, s, h => by
    have n1 := wP_nn x
    have n2 := wPL_nn r
    rcases List.mem_cons.1 h with rfl | h
    · simp only [wPL]; omega
    · have := wPL_mem h; simp only [wPL]; omega
def toPd (p : S144) : S147 := ⟨p.f0, p.f1, p.f2, p.f3⟩
theorem toPodS_l0_ev (xs : List S144) (hx : xs.length < 4611686018427387904) : ∀ suf pre, xs = pre ++ suf → Ev (fun k => laws_toPodS.l0 k xs (pre.map toPd ++ List.replicate suf.length z147) (pre.length : Int)) (xs.map toPd) := by
  intro suf
  induction suf with
  | nil =>
    intro pre h
    refine Ev.step (fun k => by rw [laws_toPodS.l0]) ?_
    have hlt : ¬ ((pre.length : Int) < (xs.length : Int)) := by rw [h]; simp
    simp only [if_neg hlt]
    rw [h, List.append_nil, List.length_nil, List.replicate_zero, List.append_nil]
    exact Ev.now _
  | cons p suf ih =>
    intro pre h
    refine Ev.step (fun k => by rw [laws_toPodS.l0]) ?_
    have hlt : ((pre.length : Int) < (xs.length : Int)) := by rw [h]; exact lt_mid _ _ _
    have hw := wrapn pre.length (by omega)
    have hrd : rd_T144 xs (pre.length : Int) = p := by rw [h]; exact rdLPd_mid _ _ _
    have hr := ih (pre ++ [p]) (by rw [h]; simp)
    rw [List.length_append, List.length_singleton, List.map_append, List.append_assoc] at hr
    have hl2 : (pre.length : Int) < ((pre.map toPd ++ List.replicate (p :: suf).length z147).length : Int) := by simp; omega
    have hset : (pre.map toPd ++ List.replicate (p :: suf).length z147).set pre.length (toPd p) = pre.map toPd ++ ([p].map toPd ++ List.replicate suf.length z147) := by
      rw [List.length_cons, List.replicate_succ]
      have := set_mid (pre.map toPd) (List.replicate suf.length z147) z147 (toPd p)
      rw [List.length_map] at this
      rw [this]
      rfl
    simp only [if_pos hlt, if_pos (nn _), hrd, hw, laws_toPod.f, Option.bind_some, if_pos hl2, Int.toNat_natCast]
    rw [show (⟨p.f0, p.f1, p.f2, p.f3⟩ : S147) = toPd p from rfl, hset]
    exact hr
theorem toPodS_ev (xs : List S144) (hx : xs.length ≤ 1048576) : Ev (fun k => laws_toPodS.f k xs) (xs.map toPd) := by
  unfold laws_toPodS.f
  simp only [if_pos (nn _), Int.toNat_natCast, show xs.length ≤ 7036874417766 from by omega, if_true]
  exact toPodS_l0_ev xs (by omega) xs [] rfl
theorem eqPodS_l0_ev (xs : List S147) (hx : xs.length < 4611686018427387904) : ∀ suf pre, xs = pre ++ suf → Ev (fun k => laws_eqPodS.l0 k xs xs (pre.length : Int)) true := by
  intro suf
  induction suf with
  | nil =>
    intro pre h
    refine Ev.step (fun k => by rw [laws_eqPodS.l0]) ?_
    have hlt : ¬ ((pre.length : Int) < (xs.length : Int)) := by rw [h]; simp
    simp only [if_neg hlt]
    exact Ev.now _
  | cons p suf ih =>
    intro pre h
    refine Ev.step (fun k => by rw [laws_eqPodS.l0]) ?_
    have hlt : ((pre.length : Int) < (xs.length : Int)) := by rw [h]; exact lt_mid _ _ _
    have hw := wrapn pre.length (by omega)
    have hr := ih (pre ++ [p]) (by rw [h]; simp)
    rw [List.length_append, List.length_singleton] at hr
    simp only [if_pos hlt, if_pos (nn _), hw, laws_eqPod.f, if_true, bne_self_eq_false, if_neg no_ft, Option.bind_some]
    exact hr
theorem eqPodS_ev (xs : List S147) (hx : xs.length < 4611686018427387904) : Ev (fun k => laws_eqPodS.f k xs xs) true := by
  unfold laws_eqPodS.f
  simp only [if_true]
  exact eqPodS_l0_ev xs hx xs [] rfl
theorem fit_toPd {l : List S144} (h : ∀ s ∈ l, wP s ≤ 1048576) : ∀ s ∈ l.map toPd, fitP s := by
  intro s hs
  obtain ⟨x, hx, rfl⟩ := List.mem_map.1 hs
  have := h x hx
  unfold wP at this
  show x.f0.size < _
  omega
theorem fit_toS {l : List S137} (h : ∀ s ∈ l, wS s ≤ 1048576) : ∀ s ∈ l.map toS, fitS s := by
  intro s hs
  obtain ⟨x, hx, rfl⟩ := List.mem_map.1 hs
  have := h x hx
  unfold wS at this
  refine ⟨?_, ?_, ?_⟩
  · show x.f0.size < _; omega
  · show x.f1.size < _; omega
  · show (x.f2.map toP).length < _
    rw [List.length_map]; omega
end Go.Proofs.Ytplekidnlofioaa.Q
