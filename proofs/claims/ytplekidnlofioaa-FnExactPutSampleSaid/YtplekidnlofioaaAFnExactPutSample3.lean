/- Part 3 of the proof of FnExactPutSample: contracts of the functions that it reaches, printed and by hand, and what they come to in plain Lean. -/
import Derived.Test.YtplekidnlofioaaAFnExactPutSample2
namespace Go.Proofs.Ytplekidnlofioaa.Q
open Go.RowKit Go.Proofs.YtplekidnlofioaaW.PrintWords Go.Proofs.YtplekidnlofioaaW.PrintLast Go.Proofs.YtplekidnlofioaaW.PrintMore
attribute [local go_sem] max2_int min2_int max_two min_two max_three min_three max_four min_four   -- for this text's walks alone
set_option linter.unusedVariables false
set_option linter.unusedSimpArgs false

/-! ### impl_Series_ok: function 98 -/
def impl_Series_ok.l0 : Nat → List (S37) → Int → Int → ByteArray → ByteArray → List (S37) → Option (Bool)
 | 0, _, _, _, _, _, _ => none
 | k + 1, x6, x7, x8, x106000, x106001, x106002 => if x8 < x7 then (if 0 ≤ x8 then (if x8 < (x6.length : Int) then ((impl_isTick.f ((rd_T37 x6 x8).f0)).bind fun t111 => (if t111 = true then ((impl_isSize.f ((rd_T37 x6 x8).f1)).bind fun t112 => (if t112 = true then (if x8 > 0 then (if 0 ≤ (wrap64 (x8 - 1)) then (if (wrap64 (x8 - 1)) < (x106002.length : Int) then (if ((rd_T37 x106002 (wrap64 (x8 - 1))).f0) ≥ ((rd_T37 x6 x8).f0) then (some false) else (impl_Series_ok.l0 k x6 x7 (wrap64 (x8 + 1)) x106000 x106001 x106002)) else (none)) else (none)) else (impl_Series_ok.l0 k x6 x7 (wrap64 (x8 + 1)) x106000 x106001 x106002)) else (some false))) else (some false))) else (none)) else (none)) else ((impl_NameOk.f k x106000).bind fun t106 => (if t106 = true then ((impl_NameOk.f k x106001).bind fun t107 => (if t107 = true then ((impl_in.f (x106002.length : Int) 1 12).bind fun t108 => (some t108)) else (some false))) else (some false)))
def impl_Series_ok.f (k : Nat) (a0_0 : ByteArray) (a0_1 : ByteArray) (l0_2 : List (S37)) : Option (Bool) := impl_Series_ok.l0 k l0_2 (l0_2.length : Int) 0 a0_0 a0_1 l0_2
theorem impl_Series_ok.mono_l : ∀ k, (∀ y0 y1 y2 y3 y4 y5, LeO (impl_Series_ok.l0 k y0 y1 y2 y3 y4 y5) (impl_Series_ok.l0 (k + 1) y0 y1 y2 y3 y4 y5))
 | 0 => fun _ _ _ _ _ _ r h => by simp [impl_Series_ok.l0] at h
 | k + 1 => by
  have ih0 := impl_Series_ok.mono_l k
  · intro y0 y1 y2 y3 y4 y5
    unfold impl_Series_ok.l0
    repeat' first
    | (with_reducible exact ih0 _ _ _ _ _ _)
    | (with_reducible exact impl_NameOk.mono _ _)
    | (with_reducible exact LeO.refl _)
    | (with_reducible exact LeO.none _)
    | (with_reducible refine LeO.ite ?_ ?_)
    | (with_reducible refine LeO.bind ?_ (fun _ => ?_))
    | exact ih0 _ _ _ _ _ _
    | exact impl_NameOk.mono _ _
    | exact LeO.none _
    | refine LeO.ite ?_ ?_
    | refine LeO.bind ?_ (fun _ => ?_)
theorem impl_Series_ok.mono : ∀ a0 a1 a2 k, LeO (impl_Series_ok.f k a0 a1 a2) (impl_Series_ok.f (k + 1) a0 a1 a2) := by
 intro a0 a1 a2 k
 have ih0 := impl_Series_ok.mono_l k
 unfold impl_Series_ok.f
 repeat' first
  | (with_reducible exact ih0 _ _ _ _ _ _)
  | (with_reducible exact impl_NameOk.mono _ _)
  | (with_reducible exact LeO.refl _)
  | (with_reducible exact LeO.none _)
  | (with_reducible refine LeO.ite ?_ ?_)
  | (with_reducible refine LeO.bind ?_ (fun _ => ?_))
  | exact ih0 _ _ _ _ _ _
  | exact impl_NameOk.mono _ _
  | exact LeO.none _
  | refine LeO.ite ?_ ?_
  | refine LeO.bind ?_ (fun _ => ?_)
set_option maxHeartbeats 8000000 in
set_option maxRecDepth 100000 in
theorem impl_Series_ok.calls (k : Nat) (a0_0 : ByteArray) (a0_1 : ByteArray) (A0_2 : Option Addr) (c0_2 : Nat) (l0_2 : List (S37)) (r : Bool) (w : World) (hr0_2 : Kd.C k37 w A0_2 l0_2.length l0_2) (hc0_2 : l0_2.length ≤ c0_2) (h : impl_Series_ok.f k a0_0 a0_1 l0_2 = some r) :
 Calls Try.prog 98 #[.agg #[.string a0_0, .string a0_1, .slice A0_2 l0_2.length c0_2]] w fun e w' => e = .returned (.bool r) ∧ Below w.heap.size w w' := by
 have hu81 := Try.underlying81
 have hu37 := Try.underlying37
 have HR0_2 := Aside0.mk hr0_2
 have HC0_2 := Aside0.mk hc0_2
 clear hr0_2 hc0_2
 have HB := Aside0.mk (Below.refl w.heap.size w)
 have H : (impl_Series_ok.l0 k l0_2 (l0_2.length : Int) 0 a0_0 a0_1 l0_2) = some r := h
 clear h
 have H' := Aside0.mk H
 clear H
 go_enter Try.func98, Try.ntmps98
 go_wp2_with (first | ((with_reducible refine gate_dst (N := 1) rfl ?_); (try (refine gate_guard (by rfl) ?_; dsimp only)); refine bx 1 #[.string a0_0, .string a0_1, .slice A0_2 l0_2.length c0_2] 81 ?_; intro gb105 hg w2 hbox hb; have BK105 := ak hbox; have GW105 := gs hg bl; have GE105 := gs hg bl; replace HB := ak (below_step bl hb); clear hb hbox hg; obtain ⟨hcz3_0, hcz3_1, hcz3_2, hfz3_0, hfz3_1, hfz3_2⟩ := cz3 BK105))
 repeat (go_quiet (first | ((with_reducible refine gate_dst (N := 1) rfl ?_); (try (refine gate_guard (by rfl) ?_; dsimp only)); refine bx 1 #[.string a0_0, .string a0_1, .slice A0_2 l0_2.length c0_2] 81 ?_; intro gb105 hg w2 hbox hb; have BK105 := ak hbox; have GW105 := gs hg bl; have GE105 := gs hg bl; replace HB := ak (below_step bl hb); clear hb hbox hg; obtain ⟨hcz3_0, hcz3_1, hcz3_2, hfz3_0, hfz3_1, hfz3_2⟩ := cz3 BK105)); try go_wp2_with (first | ((with_reducible refine gate_dst (N := 1) rfl ?_); (try (refine gate_guard (by rfl) ?_; dsimp only)); refine bx 1 #[.string a0_0, .string a0_1, .slice A0_2 l0_2.length c0_2] 81 ?_; intro gb105 hg w2 hbox hb; have BK105 := ak hbox; have GW105 := gs hg bl; have GE105 := gs hg bl; replace HB := ak (below_step bl hb); clear hb hbox hg; obtain ⟨hcz3_0, hcz3_1, hcz3_2, hfz3_0, hfz3_1, hfz3_2⟩ := cz3 BK105)))
 go_loopg [8] k (fun kq v8 w' => ∃ (x8_1 : Int), v8 = .int .i64 x8_1 ∧ Aside0 (impl_Series_ok.l0 kq l0_2 (l0_2.length : Int) x8_1 a0_0 a0_1 l0_2 = some r) ∧ Aside0 (kq ≤ k) ∧ Aside0 (w'.heap[gb105]? = some (.cells #[.string a0_0, .string a0_1, (.slice A0_2 l0_2.length c0_2)] 81 (0, 0))) ∧ Aside0 (Below w.heap.size w w'))
 case atStart => exact ⟨(0), es, H', ⟨Nat.le_refl _⟩, ⟨bk BK105⟩, ⟨bl1 GE105⟩⟩
 case round =>
  clear H'
  try clear p2
  try clear hcz3_0
  try clear hcz3_1
  try clear hcz3_2
  try clear hfz3_0
  try clear hfz3_1
  try clear hfz3_2
  obtain ⟨x8_1, rfl, HA, HK1, BK105, HB⟩ := hrel
  cases gk with
  | zero => exact absurd HA.out (by simp [impl_Series_ok.l0])
  | succ k1 =>
   have H := HA.out
   clear HA
   simp only [impl_Series_ok.l0] at H
   by_cases c4 : x8_1 < (l0_2.length : Int)
   · rw [if_pos c4] at H
     have c4b0 : decide (x8_1 < (l0_2.length : Int)) = true := decide_eq_true c4
     clear c4
     by_cases c5 : 0 ≤ x8_1
     · rw [if_pos c5] at H
       have c5b0 : decide (0 ≤ x8_1) = true := decide_eq_true c5
       clear c5
       by_cases c6 : x8_1 < (l0_2.length : Int)
       · rw [if_pos c6] at H
         have c6b0 : decide (x8_1 < (l0_2.length : Int)) = true := decide_eq_true c6
         clear c6
         obtain ⟨t111, A70, H⟩ := bo H
         have A7 := Aside0.mk A70
         clear A70
         by_cases c8 : t111 = true
         · subst c8
           replace H := iT H
           obtain ⟨t112, A90, H⟩ := bo H
           have A9 := Aside0.mk A90
           clear A90
           by_cases c10 : t112 = true
           · subst c10
             replace H := iT H
             by_cases c11 : x8_1 > 0
             · rw [if_pos c11] at H
               have c11b0 : decide (0 < x8_1) = true := decide_eq_true c11
               clear c11
               obtain ⟨ji12, hji12⟩ : ∃ j_ : Int, (wrap64 (x8_1 - 1)) = j_ := ⟨_, rfl⟩
               replace H : (if 0 ≤ (ji12) then (if (ji12) < (l0_2.length : Int) then (if ((rd_T37 l0_2 (ji12)).f0) ≥ ((rd_T37 l0_2 x8_1).f0) then (some false) else (impl_Series_ok.l0 k1 l0_2 (l0_2.length : Int) (wrap64 (x8_1 + 1)) a0_0 a0_1 l0_2)) else (none)) else (none)) = some r := by first | (rw [hji12] at H; exact H) | (simp only [hji12] at H ⊢; exact H)
               (try rw [hji12] at A7)
               (try rw [hji12] at A9)
               have hji12w : (IntKind.i64.wrap (x8_1 - 1)) = ji12 := (i64_w _).trans hji12
               by_cases c13 : 0 ≤ (ji12)
               · rw [if_pos c13] at H
                 have c13b0 : decide (0 ≤ (ji12)) = true := decide_eq_true c13
                 clear c13
                 by_cases c14 : (ji12) < (l0_2.length : Int)
                 · rw [if_pos c14] at H
                   have c14b0 : decide ((ji12) < (l0_2.length : Int)) = true := decide_eq_true c14
                   clear c14
                   by_cases c15 : ((rd_T37 l0_2 (ji12)).f0) ≥ ((rd_T37 l0_2 x8_1).f0)
                   · rw [if_pos c15] at H
                     have c15b0 : decide (((rd_T37 l0_2 x8_1).f0) ≤ ((rd_T37 l0_2 (ji12)).f0)) = true := decide_eq_true c15
                     clear c15
                     obtain rfl := Option.some.inj H
                     have p109 : 0 ≤ (x8_1 : Int) := of_decide_eq_true am
                     have q109 : x8_1 < (l0_2.length : Int) := of_decide_eq_true am
                     obtain ⟨ad109, e109, hx109_0, hx109_1⟩ := at_T37 HR0_2.out x8_1 p109 q109
                     cases e109
                     replace hx109_0 := cw hx109_0
                     replace hx109_1 := cw hx109_1
                     replace p109 := eq_true p109
                     replace q109 := eq_true q109
                     go_wp2_with (first | ((with_reducible refine gate_dst (N := 4) rfl ?_); (try (refine gate_guard (by rfl) ?_; dsimp only)); refine bx 4 #[.int .i64 0, .int .i64 0] 37 ?_; intro gb110 hg w16 hbox hb; have BK110 := ak hbox; have GW110 := gs hg (bl1 GE105); have GE110 := gs hg (bl1 GE105); replace HB := ak (below_step (bl1 GE105) hb); have NB105_110 := nl hg BK105; have NB110_105 := ng hg BK105; replace BK105 := bb BK105 hb; clear hb hbox hg; have hnb17 := NB110_105.out; have hnc17 := NB105_110.out; obtain ⟨hcz18_0, hcz18_1, hfz18_0, hfz18_1⟩ := cz2 BK110) | (go_at_call 122; (with_reducible refine (impl_isTick.calls ((rd_T37 l0_2 x8_1).f0) true _ A7.out).mono ?_); rintro e w' ⟨rfl, ⟨nd, rfl⟩⟩; (try exact dd)) | (go_at_call 150; (with_reducible refine (impl_isSize.calls ((rd_T37 l0_2 x8_1).f1) true _ A9.out).mono ?_); rintro e w' ⟨rfl, ⟨nd, rfl⟩⟩; (try exact dd); obtain ⟨hcz19_0, hcz19_1, hcz19_2, hfz19_0, hfz19_1, hfz19_2⟩ := cz3 BK105; have p113 : 0 ≤ ((ji12) : Int) := of_decide_eq_true am; have q113 : (ji12) < (l0_2.length : Int) := of_decide_eq_true am; obtain ⟨ad113, e113, hx113_0, hx113_1⟩ := at_T37 HR0_2.out (ji12) p113 q113; obtain rfl : ad109 = ad113 := (by injection e113); have hn113_0 : ad109.block ≠ gb110 := Nat.ne_of_lt (Nat.lt_of_lt_of_le (by have := World.block_lt_of_cell? _ _ hx113_0; first | rwa [add_block] at this | exact this) GW110.out); have hn113_1 : ad109.block ≠ gb110 := Nat.ne_of_lt (Nat.lt_of_lt_of_le (by have := World.block_lt_of_cell? _ _ hx113_0; first | rwa [add_block] at this | exact this) GW110.out); replace hx113_0 := cw hx113_0; replace hx113_1 := cw hx113_1; replace hx113_0 := (cell_far (p := ⟨gb110, 0, none⟩) (by first | (rw [add_block]; exact hn113_0) | (show (Addr.add _ _).block ≠ _; rw [add_block]; exact hn113_0) | exact hn113_0) (.int .i64 ((rd_T37 l0_2 x8_1).f0))).trans hx113_0; replace hx113_1 := (cell_far (p := ⟨gb110, 0, none⟩) (by first | (rw [add_block]; exact hn113_0) | (show (Addr.add _ _).block ≠ _; rw [add_block]; exact hn113_0) | exact hn113_0) (.int .i64 ((rd_T37 l0_2 x8_1).f0))).trans hx113_1; replace hx113_0 := (cell_far (p := ⟨gb110, 1, none⟩) (by first | (rw [add_block]; exact hn113_1) | (show (Addr.add _ _).block ≠ _; rw [add_block]; exact hn113_1) | exact hn113_1) (.int .i64 ((rd_T37 l0_2 x8_1).f1))).trans hx113_0; replace hx113_1 := (cell_far (p := ⟨gb110, 1, none⟩) (by first | (rw [add_block]; exact hn113_1) | (show (Addr.add _ _).block ≠ _; rw [add_block]; exact hn113_1) | exact hn113_1) (.int .i64 ((rd_T37 l0_2 x8_1).f1))).trans hx113_1; (try have hy113_0 := fun (n_ : Nat) => (show ((((w16.drewN n_).setCell ⟨gb110, 0, none⟩ (.int .i64 ((rd_T37 l0_2 x8_1).f0))).setCell ⟨gb110, 1, none⟩ (.int .i64 ((rd_T37 l0_2 x8_1).f1)))).cell? _ = some _ from hx113_0)); (try have hy113_1 := fun (n_ : Nat) => (show ((((w16.drewN n_).setCell ⟨gb110, 0, none⟩ (.int .i64 ((rd_T37 l0_2 x8_1).f0))).setCell ⟨gb110, 1, none⟩ (.int .i64 ((rd_T37 l0_2 x8_1).f1)))).cell? _ = some _ from hx113_1)); clear hn113_0; clear hn113_1; replace p113 := eq_true p113; replace q113 := eq_true q113))
                     repeat (go_quiet (first | ((with_reducible refine gate_dst (N := 4) rfl ?_); (try (refine gate_guard (by rfl) ?_; dsimp only)); refine bx 4 #[.int .i64 0, .int .i64 0] 37 ?_; intro gb110 hg w16 hbox hb; have BK110 := ak hbox; have GW110 := gs hg (bl1 GE105); have GE110 := gs hg (bl1 GE105); replace HB := ak (below_step (bl1 GE105) hb); have NB105_110 := nl hg BK105; have NB110_105 := ng hg BK105; replace BK105 := bb BK105 hb; clear hb hbox hg; have hnb17 := NB110_105.out; have hnc17 := NB105_110.out; obtain ⟨hcz18_0, hcz18_1, hfz18_0, hfz18_1⟩ := cz2 BK110) | (go_at_call 122; (with_reducible refine (impl_isTick.calls ((rd_T37 l0_2 x8_1).f0) true _ A7.out).mono ?_); rintro e w' ⟨rfl, ⟨nd, rfl⟩⟩; (try exact dd)) | (go_at_call 150; (with_reducible refine (impl_isSize.calls ((rd_T37 l0_2 x8_1).f1) true _ A9.out).mono ?_); rintro e w' ⟨rfl, ⟨nd, rfl⟩⟩; (try exact dd); obtain ⟨hcz19_0, hcz19_1, hcz19_2, hfz19_0, hfz19_1, hfz19_2⟩ := cz3 BK105; have p113 : 0 ≤ ((ji12) : Int) := of_decide_eq_true am; have q113 : (ji12) < (l0_2.length : Int) := of_decide_eq_true am; obtain ⟨ad113, e113, hx113_0, hx113_1⟩ := at_T37 HR0_2.out (ji12) p113 q113; obtain rfl : ad109 = ad113 := (by injection e113); have hn113_0 : ad109.block ≠ gb110 := Nat.ne_of_lt (Nat.lt_of_lt_of_le (by have := World.block_lt_of_cell? _ _ hx113_0; first | rwa [add_block] at this | exact this) GW110.out); have hn113_1 : ad109.block ≠ gb110 := Nat.ne_of_lt (Nat.lt_of_lt_of_le (by have := World.block_lt_of_cell? _ _ hx113_0; first | rwa [add_block] at this | exact this) GW110.out); replace hx113_0 := cw hx113_0; replace hx113_1 := cw hx113_1; replace hx113_0 := (cell_far (p := ⟨gb110, 0, none⟩) (by first | (rw [add_block]; exact hn113_0) | (show (Addr.add _ _).block ≠ _; rw [add_block]; exact hn113_0) | exact hn113_0) (.int .i64 ((rd_T37 l0_2 x8_1).f0))).trans hx113_0; replace hx113_1 := (cell_far (p := ⟨gb110, 0, none⟩) (by first | (rw [add_block]; exact hn113_0) | (show (Addr.add _ _).block ≠ _; rw [add_block]; exact hn113_0) | exact hn113_0) (.int .i64 ((rd_T37 l0_2 x8_1).f0))).trans hx113_1; replace hx113_0 := (cell_far (p := ⟨gb110, 1, none⟩) (by first | (rw [add_block]; exact hn113_1) | (show (Addr.add _ _).block ≠ _; rw [add_block]; exact hn113_1) | exact hn113_1) (.int .i64 ((rd_T37 l0_2 x8_1).f1))).trans hx113_0; replace hx113_1 := (cell_far (p := ⟨gb110, 1, none⟩) (by first | (rw [add_block]; exact hn113_1) | (show (Addr.add _ _).block ≠ _; rw [add_block]; exact hn113_1) | exact hn113_1) (.int .i64 ((rd_T37 l0_2 x8_1).f1))).trans hx113_1; (try have hy113_0 := fun (n_ : Nat) => (show ((((w16.drewN n_).setCell ⟨gb110, 0, none⟩ (.int .i64 ((rd_T37 l0_2 x8_1).f0))).setCell ⟨gb110, 1, none⟩ (.int .i64 ((rd_T37 l0_2 x8_1).f1)))).cell? _ = some _ from hx113_0)); (try have hy113_1 := fun (n_ : Nat) => (show ((((w16.drewN n_).setCell ⟨gb110, 0, none⟩ (.int .i64 ((rd_T37 l0_2 x8_1).f0))).setCell ⟨gb110, 1, none⟩ (.int .i64 ((rd_T37 l0_2 x8_1).f1)))).cell? _ = some _ from hx113_1)); clear hn113_0; clear hn113_1; replace p113 := eq_true p113; replace q113 := eq_true q113)); try go_wp2_with (first | ((with_reducible refine gate_dst (N := 4) rfl ?_); (try (refine gate_guard (by rfl) ?_; dsimp only)); refine bx 4 #[.int .i64 0, .int .i64 0] 37 ?_; intro gb110 hg w16 hbox hb; have BK110 := ak hbox; have GW110 := gs hg (bl1 GE105); have GE110 := gs hg (bl1 GE105); replace HB := ak (below_step (bl1 GE105) hb); have NB105_110 := nl hg BK105; have NB110_105 := ng hg BK105; replace BK105 := bb BK105 hb; clear hb hbox hg; have hnb17 := NB110_105.out; have hnc17 := NB105_110.out; obtain ⟨hcz18_0, hcz18_1, hfz18_0, hfz18_1⟩ := cz2 BK110) | (go_at_call 122; (with_reducible refine (impl_isTick.calls ((rd_T37 l0_2 x8_1).f0) true _ A7.out).mono ?_); rintro e w' ⟨rfl, ⟨nd, rfl⟩⟩; (try exact dd)) | (go_at_call 150; (with_reducible refine (impl_isSize.calls ((rd_T37 l0_2 x8_1).f1) true _ A9.out).mono ?_); rintro e w' ⟨rfl, ⟨nd, rfl⟩⟩; (try exact dd); obtain ⟨hcz19_0, hcz19_1, hcz19_2, hfz19_0, hfz19_1, hfz19_2⟩ := cz3 BK105; have p113 : 0 ≤ ((ji12) : Int) := of_decide_eq_true am; have q113 : (ji12) < (l0_2.length : Int) := of_decide_eq_true am; obtain ⟨ad113, e113, hx113_0, hx113_1⟩ := at_T37 HR0_2.out (ji12) p113 q113; obtain rfl : ad109 = ad113 := (by injection e113); have hn113_0 : ad109.block ≠ gb110 := Nat.ne_of_lt (Nat.lt_of_lt_of_le (by have := World.block_lt_of_cell? _ _ hx113_0; first | rwa [add_block] at this | exact this) GW110.out); have hn113_1 : ad109.block ≠ gb110 := Nat.ne_of_lt (Nat.lt_of_lt_of_le (by have := World.block_lt_of_cell? _ _ hx113_0; first | rwa [add_block] at this | exact this) GW110.out); replace hx113_0 := cw hx113_0; replace hx113_1 := cw hx113_1; replace hx113_0 := (cell_far (p := ⟨gb110, 0, none⟩) (by first | (rw [add_block]; exact hn113_0) | (show (Addr.add _ _).block ≠ _; rw [add_block]; exact hn113_0) | exact hn113_0) (.int .i64 ((rd_T37 l0_2 x8_1).f0))).trans hx113_0; replace hx113_1 := (cell_far (p := ⟨gb110, 0, none⟩) (by first | (rw [add_block]; exact hn113_0) | (show (Addr.add _ _).block ≠ _; rw [add_block]; exact hn113_0) | exact hn113_0) (.int .i64 ((rd_T37 l0_2 x8_1).f0))).trans hx113_1; replace hx113_0 := (cell_far (p := ⟨gb110, 1, none⟩) (by first | (rw [add_block]; exact hn113_1) | (show (Addr.add _ _).block ≠ _; rw [add_block]; exact hn113_1) | exact hn113_1) (.int .i64 ((rd_T37 l0_2 x8_1).f1))).trans hx113_0; replace hx113_1 := (cell_far (p := ⟨gb110, 1, none⟩) (by first | (rw [add_block]; exact hn113_1) | (show (Addr.add _ _).block ≠ _; rw [add_block]; exact hn113_1) | exact hn113_1) (.int .i64 ((rd_T37 l0_2 x8_1).f1))).trans hx113_1; (try have hy113_0 := fun (n_ : Nat) => (show ((((w16.drewN n_).setCell ⟨gb110, 0, none⟩ (.int .i64 ((rd_T37 l0_2 x8_1).f0))).setCell ⟨gb110, 1, none⟩ (.int .i64 ((rd_T37 l0_2 x8_1).f1)))).cell? _ = some _ from hx113_0)); (try have hy113_1 := fun (n_ : Nat) => (show ((((w16.drewN n_).setCell ⟨gb110, 0, none⟩ (.int .i64 ((rd_T37 l0_2 x8_1).f0))).setCell ⟨gb110, 1, none⟩ (.int .i64 ((rd_T37 l0_2 x8_1).f1)))).cell? _ = some _ from hx113_1)); clear hn113_0; clear hn113_1; replace p113 := eq_true p113; replace q113 := eq_true q113)))
                     go_ret
                     exact ⟨by first | rfl | (simp [errW_none, errW_some] <;> rfl) | (simp only [← hji12]; first | rfl | (simp [errW_none, errW_some] <;> rfl)) | (simp [*, errW_none, errW_some] <;> rfl), bl2 GE105 GE110⟩
                   · rw [if_neg c15] at H
                     have c15b0 : decide (((rd_T37 l0_2 x8_1).f0) ≤ ((rd_T37 l0_2 (ji12)).f0)) = false := decide_eq_false c15
                     clear c15
                     have H' := Aside0.mk H
                     clear H
                     have p109 : 0 ≤ (x8_1 : Int) := of_decide_eq_true am
                     have q109 : x8_1 < (l0_2.length : Int) := of_decide_eq_true am
                     obtain ⟨ad109, e109, hx109_0, hx109_1⟩ := at_T37 HR0_2.out x8_1 p109 q109
                     cases e109
                     replace hx109_0 := cw hx109_0
                     replace hx109_1 := cw hx109_1
                     replace p109 := eq_true p109
                     replace q109 := eq_true q109
                     go_wp2_with (first | ((with_reducible refine gate_dst (N := 4) rfl ?_); (try (refine gate_guard (by rfl) ?_; dsimp only)); refine bx 4 #[.int .i64 0, .int .i64 0] 37 ?_; intro gb110 hg w20 hbox hb; have BK110 := ak hbox; have GW110 := gs hg (bl1 GE105); have GE110 := gs hg (bl1 GE105); replace HB := ak (below_step (bl1 GE105) hb); have NB105_110 := nl hg BK105; have NB110_105 := ng hg BK105; replace BK105 := bb BK105 hb; clear hb hbox hg; have hnb21 := NB110_105.out; have hnc21 := NB105_110.out; obtain ⟨hcz22_0, hcz22_1, hfz22_0, hfz22_1⟩ := cz2 BK110) | (go_at_call 122; (with_reducible refine (impl_isTick.calls ((rd_T37 l0_2 x8_1).f0) true _ A7.out).mono ?_); rintro e w' ⟨rfl, ⟨nd, rfl⟩⟩; (try exact dd)) | (go_at_call 150; (with_reducible refine (impl_isSize.calls ((rd_T37 l0_2 x8_1).f1) true _ A9.out).mono ?_); rintro e w' ⟨rfl, ⟨nd, rfl⟩⟩; (try exact dd); obtain ⟨hcz23_0, hcz23_1, hcz23_2, hfz23_0, hfz23_1, hfz23_2⟩ := cz3 BK105; have p113 : 0 ≤ ((ji12) : Int) := of_decide_eq_true am; have q113 : (ji12) < (l0_2.length : Int) := of_decide_eq_true am; obtain ⟨ad113, e113, hx113_0, hx113_1⟩ := at_T37 HR0_2.out (ji12) p113 q113; obtain rfl : ad109 = ad113 := (by injection e113); have hn113_0 : ad109.block ≠ gb110 := Nat.ne_of_lt (Nat.lt_of_lt_of_le (by have := World.block_lt_of_cell? _ _ hx113_0; first | rwa [add_block] at this | exact this) GW110.out); have hn113_1 : ad109.block ≠ gb110 := Nat.ne_of_lt (Nat.lt_of_lt_of_le (by have := World.block_lt_of_cell? _ _ hx113_0; first | rwa [add_block] at this | exact this) GW110.out); replace hx113_0 := cw hx113_0; replace hx113_1 := cw hx113_1; replace hx113_0 := (cell_far (p := ⟨gb110, 0, none⟩) (by first | (rw [add_block]; exact hn113_0) | (show (Addr.add _ _).block ≠ _; rw [add_block]; exact hn113_0) | exact hn113_0) (.int .i64 ((rd_T37 l0_2 x8_1).f0))).trans hx113_0; replace hx113_1 := (cell_far (p := ⟨gb110, 0, none⟩) (by first | (rw [add_block]; exact hn113_0) | (show (Addr.add _ _).block ≠ _; rw [add_block]; exact hn113_0) | exact hn113_0) (.int .i64 ((rd_T37 l0_2 x8_1).f0))).trans hx113_1; replace hx113_0 := (cell_far (p := ⟨gb110, 1, none⟩) (by first | (rw [add_block]; exact hn113_1) | (show (Addr.add _ _).block ≠ _; rw [add_block]; exact hn113_1) | exact hn113_1) (.int .i64 ((rd_T37 l0_2 x8_1).f1))).trans hx113_0; replace hx113_1 := (cell_far (p := ⟨gb110, 1, none⟩) (by first | (rw [add_block]; exact hn113_1) | (show (Addr.add _ _).block ≠ _; rw [add_block]; exact hn113_1) | exact hn113_1) (.int .i64 ((rd_T37 l0_2 x8_1).f1))).trans hx113_1; (try have hy113_0 := fun (n_ : Nat) => (show ((((w20.drewN n_).setCell ⟨gb110, 0, none⟩ (.int .i64 ((rd_T37 l0_2 x8_1).f0))).setCell ⟨gb110, 1, none⟩ (.int .i64 ((rd_T37 l0_2 x8_1).f1)))).cell? _ = some _ from hx113_0)); (try have hy113_1 := fun (n_ : Nat) => (show ((((w20.drewN n_).setCell ⟨gb110, 0, none⟩ (.int .i64 ((rd_T37 l0_2 x8_1).f0))).setCell ⟨gb110, 1, none⟩ (.int .i64 ((rd_T37 l0_2 x8_1).f1)))).cell? _ = some _ from hx113_1)); clear hn113_0; clear hn113_1; replace p113 := eq_true p113; replace q113 := eq_true q113))
                     repeat (go_quiet (first | ((with_reducible refine gate_dst (N := 4) rfl ?_); (try (refine gate_guard (by rfl) ?_; dsimp only)); refine bx 4 #[.int .i64 0, .int .i64 0] 37 ?_; intro gb110 hg w20 hbox hb; have BK110 := ak hbox; have GW110 := gs hg (bl1 GE105); have GE110 := gs hg (bl1 GE105); replace HB := ak (below_step (bl1 GE105) hb); have NB105_110 := nl hg BK105; have NB110_105 := ng hg BK105; replace BK105 := bb BK105 hb; clear hb hbox hg; have hnb21 := NB110_105.out; have hnc21 := NB105_110.out; obtain ⟨hcz22_0, hcz22_1, hfz22_0, hfz22_1⟩ := cz2 BK110) | (go_at_call 122; (with_reducible refine (impl_isTick.calls ((rd_T37 l0_2 x8_1).f0) true _ A7.out).mono ?_); rintro e w' ⟨rfl, ⟨nd, rfl⟩⟩; (try exact dd)) | (go_at_call 150; (with_reducible refine (impl_isSize.calls ((rd_T37 l0_2 x8_1).f1) true _ A9.out).mono ?_); rintro e w' ⟨rfl, ⟨nd, rfl⟩⟩; (try exact dd); obtain ⟨hcz23_0, hcz23_1, hcz23_2, hfz23_0, hfz23_1, hfz23_2⟩ := cz3 BK105; have p113 : 0 ≤ ((ji12) : Int) := of_decide_eq_true am; have q113 : (ji12) < (l0_2.length : Int) := of_decide_eq_true am; obtain ⟨ad113, e113, hx113_0, hx113_1⟩ := at_T37 HR0_2.out (ji12) p113 q113; obtain rfl : ad109 = ad113 := (by injection e113); have hn113_0 : ad109.block ≠ gb110 := Nat.ne_of_lt (Nat.lt_of_lt_of_le (by have := World.block_lt_of_cell? _ _ hx113_0; first | rwa [add_block] at this | exact this) GW110.out); have hn113_1 : ad109.block ≠ gb110 := Nat.ne_of_lt (Nat.lt_of_lt_of_le (by have := World.block_lt_of_cell? _ _ hx113_0; first | rwa [add_block] at this | exact this) GW110.out); replace hx113_0 := cw hx113_0; replace hx113_1 := cw hx113_1; replace hx113_0 := (cell_far (p := ⟨gb110, 0, none⟩) (by first | (rw [add_block]; exact hn113_0) | (show (Addr.add _ _).block ≠ _; rw [add_block]; exact hn113_0) | exact hn113_0) (.int .i64 ((rd_T37 l0_2 x8_1).f0))).trans hx113_0; replace hx113_1 := (cell_far (p := ⟨gb110, 0, none⟩) (by first | (rw [add_block]; exact hn113_0) | (show (Addr.add _ _).block ≠ _; rw [add_block]; exact hn113_0) | exact hn113_0) (.int .i64 ((rd_T37 l0_2 x8_1).f0))).trans hx113_1; replace hx113_0 := (cell_far (p := ⟨gb110, 1, none⟩) (by first | (rw [add_block]; exact hn113_1) | (show (Addr.add _ _).block ≠ _; rw [add_block]; exact hn113_1) | exact hn113_1) (.int .i64 ((rd_T37 l0_2 x8_1).f1))).trans hx113_0; replace hx113_1 := (cell_far (p := ⟨gb110, 1, none⟩) (by first | (rw [add_block]; exact hn113_1) | (show (Addr.add _ _).block ≠ _; rw [add_block]; exact hn113_1) | exact hn113_1) (.int .i64 ((rd_T37 l0_2 x8_1).f1))).trans hx113_1; (try have hy113_0 := fun (n_ : Nat) => (show ((((w20.drewN n_).setCell ⟨gb110, 0, none⟩ (.int .i64 ((rd_T37 l0_2 x8_1).f0))).setCell ⟨gb110, 1, none⟩ (.int .i64 ((rd_T37 l0_2 x8_1).f1)))).cell? _ = some _ from hx113_0)); (try have hy113_1 := fun (n_ : Nat) => (show ((((w20.drewN n_).setCell ⟨gb110, 0, none⟩ (.int .i64 ((rd_T37 l0_2 x8_1).f0))).setCell ⟨gb110, 1, none⟩ (.int .i64 ((rd_T37 l0_2 x8_1).f1)))).cell? _ = some _ from hx113_1)); clear hn113_0; clear hn113_1; replace p113 := eq_true p113; replace q113 := eq_true q113)); try go_wp2_with (first | ((with_reducible refine gate_dst (N := 4) rfl ?_); (try (refine gate_guard (by rfl) ?_; dsimp only)); refine bx 4 #[.int .i64 0, .int .i64 0] 37 ?_; intro gb110 hg w20 hbox hb; have BK110 := ak hbox; have GW110 := gs hg (bl1 GE105); have GE110 := gs hg (bl1 GE105); replace HB := ak (below_step (bl1 GE105) hb); have NB105_110 := nl hg BK105; have NB110_105 := ng hg BK105; replace BK105 := bb BK105 hb; clear hb hbox hg; have hnb21 := NB110_105.out; have hnc21 := NB105_110.out; obtain ⟨hcz22_0, hcz22_1, hfz22_0, hfz22_1⟩ := cz2 BK110) | (go_at_call 122; (with_reducible refine (impl_isTick.calls ((rd_T37 l0_2 x8_1).f0) true _ A7.out).mono ?_); rintro e w' ⟨rfl, ⟨nd, rfl⟩⟩; (try exact dd)) | (go_at_call 150; (with_reducible refine (impl_isSize.calls ((rd_T37 l0_2 x8_1).f1) true _ A9.out).mono ?_); rintro e w' ⟨rfl, ⟨nd, rfl⟩⟩; (try exact dd); obtain ⟨hcz23_0, hcz23_1, hcz23_2, hfz23_0, hfz23_1, hfz23_2⟩ := cz3 BK105; have p113 : 0 ≤ ((ji12) : Int) := of_decide_eq_true am; have q113 : (ji12) < (l0_2.length : Int) := of_decide_eq_true am; obtain ⟨ad113, e113, hx113_0, hx113_1⟩ := at_T37 HR0_2.out (ji12) p113 q113; obtain rfl : ad109 = ad113 := (by injection e113); have hn113_0 : ad109.block ≠ gb110 := Nat.ne_of_lt (Nat.lt_of_lt_of_le (by have := World.block_lt_of_cell? _ _ hx113_0; first | rwa [add_block] at this | exact this) GW110.out); have hn113_1 : ad109.block ≠ gb110 := Nat.ne_of_lt (Nat.lt_of_lt_of_le (by have := World.block_lt_of_cell? _ _ hx113_0; first | rwa [add_block] at this | exact this) GW110.out); replace hx113_0 := cw hx113_0; replace hx113_1 := cw hx113_1; replace hx113_0 := (cell_far (p := ⟨gb110, 0, none⟩) (by first | (rw [add_block]; exact hn113_0) | (show (Addr.add _ _).block ≠ _; rw [add_block]; exact hn113_0) | exact hn113_0) (.int .i64 ((rd_T37 l0_2 x8_1).f0))).trans hx113_0; replace hx113_1 := (cell_far (p := ⟨gb110, 0, none⟩) (by first | (rw [add_block]; exact hn113_0) | (show (Addr.add _ _).block ≠ _; rw [add_block]; exact hn113_0) | exact hn113_0) (.int .i64 ((rd_T37 l0_2 x8_1).f0))).trans hx113_1; replace hx113_0 := (cell_far (p := ⟨gb110, 1, none⟩) (by first | (rw [add_block]; exact hn113_1) | (show (Addr.add _ _).block ≠ _; rw [add_block]; exact hn113_1) | exact hn113_1) (.int .i64 ((rd_T37 l0_2 x8_1).f1))).trans hx113_0; replace hx113_1 := (cell_far (p := ⟨gb110, 1, none⟩) (by first | (rw [add_block]; exact hn113_1) | (show (Addr.add _ _).block ≠ _; rw [add_block]; exact hn113_1) | exact hn113_1) (.int .i64 ((rd_T37 l0_2 x8_1).f1))).trans hx113_1; (try have hy113_0 := fun (n_ : Nat) => (show ((((w20.drewN n_).setCell ⟨gb110, 0, none⟩ (.int .i64 ((rd_T37 l0_2 x8_1).f0))).setCell ⟨gb110, 1, none⟩ (.int .i64 ((rd_T37 l0_2 x8_1).f1)))).cell? _ = some _ from hx113_0)); (try have hy113_1 := fun (n_ : Nat) => (show ((((w20.drewN n_).setCell ⟨gb110, 0, none⟩ (.int .i64 ((rd_T37 l0_2 x8_1).f0))).setCell ⟨gb110, 1, none⟩ (.int .i64 ((rd_T37 l0_2 x8_1).f1)))).cell? _ = some _ from hx113_1)); clear hn113_0; clear hn113_1; replace p113 := eq_true p113; replace q113 := eq_true q113)))
                     go_roundg k1
                     case measure => have := HK1.out; omega
                     case rel => exact ⟨(wrap64 (x8_1 + 1)), es, H', ⟨kp⟩, ⟨by (with_reducible repeat (first | refine blk_drewN ?_ _ | refine blk_drew ?_ | refine blk_alloc ?_ _)); refine blk_far ?_ NB105_110.out _; (with_reducible repeat (first | refine blk_drewN ?_ _ | refine blk_drew ?_ | refine blk_alloc ?_ _)); refine blk_far ?_ NB105_110.out _; (with_reducible repeat (first | refine blk_drewN ?_ _ | refine blk_drew ?_ | refine blk_alloc ?_ _)); exact BK105.out⟩, ⟨bl2 GE105 GE110⟩⟩
                 · rw [if_neg c14] at H
                   exact absurd H (by simp)
               · rw [if_neg c13] at H
                 exact absurd H (by simp)
             · rw [if_neg c11] at H
               have c11b0 : decide (0 < x8_1) = false := decide_eq_false c11
               clear c11
               have H' := Aside0.mk H
               clear H
               have p109 : 0 ≤ (x8_1 : Int) := of_decide_eq_true am
               have q109 : x8_1 < (l0_2.length : Int) := of_decide_eq_true am
               obtain ⟨ad109, e109, hx109_0, hx109_1⟩ := at_T37 HR0_2.out x8_1 p109 q109
               cases e109
               replace hx109_0 := cw hx109_0
               replace hx109_1 := cw hx109_1
               replace p109 := eq_true p109
               replace q109 := eq_true q109
               go_wp2_with (first | ((with_reducible refine gate_dst (N := 4) rfl ?_); (try (refine gate_guard (by rfl) ?_; dsimp only)); refine bx 4 #[.int .i64 0, .int .i64 0] 37 ?_; intro gb110 hg w24 hbox hb; have BK110 := ak hbox; have GW110 := gs hg (bl1 GE105); have GE110 := gs hg (bl1 GE105); replace HB := ak (below_step (bl1 GE105) hb); have NB105_110 := nl hg BK105; have NB110_105 := ng hg BK105; replace BK105 := bb BK105 hb; clear hb hbox hg; have hnb25 := NB110_105.out; have hnc25 := NB105_110.out; obtain ⟨hcz26_0, hcz26_1, hfz26_0, hfz26_1⟩ := cz2 BK110) | (go_at_call 122; (with_reducible refine (impl_isTick.calls ((rd_T37 l0_2 x8_1).f0) true _ A7.out).mono ?_); rintro e w' ⟨rfl, ⟨nd, rfl⟩⟩; (try exact dd)) | (go_at_call 150; (with_reducible refine (impl_isSize.calls ((rd_T37 l0_2 x8_1).f1) true _ A9.out).mono ?_); rintro e w' ⟨rfl, ⟨nd, rfl⟩⟩; (try exact dd)))
               repeat (go_quiet (first | ((with_reducible refine gate_dst (N := 4) rfl ?_); (try (refine gate_guard (by rfl) ?_; dsimp only)); refine bx 4 #[.int .i64 0, .int .i64 0] 37 ?_; intro gb110 hg w24 hbox hb; have BK110 := ak hbox; have GW110 := gs hg (bl1 GE105); have GE110 := gs hg (bl1 GE105); replace HB := ak (below_step (bl1 GE105) hb); have NB105_110 := nl hg BK105; have NB110_105 := ng hg BK105; replace BK105 := bb BK105 hb; clear hb hbox hg; have hnb25 := NB110_105.out; have hnc25 := NB105_110.out; obtain ⟨hcz26_0, hcz26_1, hfz26_0, hfz26_1⟩ := cz2 BK110) | (go_at_call 122; (with_reducible refine (impl_isTick.calls ((rd_T37 l0_2 x8_1).f0) true _ A7.out).mono ?_); rintro e w' ⟨rfl, ⟨nd, rfl⟩⟩; (try exact dd)) | (go_at_call 150; (with_reducible refine (impl_isSize.calls ((rd_T37 l0_2 x8_1).f1) true _ A9.out).mono ?_); rintro e w' ⟨rfl, ⟨nd, rfl⟩⟩; (try exact dd))); try go_wp2_with (first | ((with_reducible refine gate_dst (N := 4) rfl ?_); (try (refine gate_guard (by rfl) ?_; dsimp only)); refine bx 4 #[.int .i64 0, .int .i64 0] 37 ?_; intro gb110 hg w24 hbox hb; have BK110 := ak hbox; have GW110 := gs hg (bl1 GE105); have GE110 := gs hg (bl1 GE105); replace HB := ak (below_step (bl1 GE105) hb); have NB105_110 := nl hg BK105; have NB110_105 := ng hg BK105; replace BK105 := bb BK105 hb; clear hb hbox hg; have hnb25 := NB110_105.out; have hnc25 := NB105_110.out; obtain ⟨hcz26_0, hcz26_1, hfz26_0, hfz26_1⟩ := cz2 BK110) | (go_at_call 122; (with_reducible refine (impl_isTick.calls ((rd_T37 l0_2 x8_1).f0) true _ A7.out).mono ?_); rintro e w' ⟨rfl, ⟨nd, rfl⟩⟩; (try exact dd)) | (go_at_call 150; (with_reducible refine (impl_isSize.calls ((rd_T37 l0_2 x8_1).f1) true _ A9.out).mono ?_); rintro e w' ⟨rfl, ⟨nd, rfl⟩⟩; (try exact dd))))
               go_roundg k1
               case measure => have := HK1.out; omega
               case rel => exact ⟨(wrap64 (x8_1 + 1)), es, H', ⟨kp⟩, ⟨by (with_reducible repeat (first | refine blk_drewN ?_ _ | refine blk_drew ?_ | refine blk_alloc ?_ _)); refine blk_far ?_ NB105_110.out _; (with_reducible repeat (first | refine blk_drewN ?_ _ | refine blk_drew ?_ | refine blk_alloc ?_ _)); refine blk_far ?_ NB105_110.out _; (with_reducible repeat (first | refine blk_drewN ?_ _ | refine blk_drew ?_ | refine blk_alloc ?_ _)); exact BK105.out⟩, ⟨bl2 GE105 GE110⟩⟩
           · replace c10 := Bool.eq_false_iff.mpr c10
             subst c10
             replace H := iF H
             obtain rfl := Option.some.inj H
             have p109 : 0 ≤ (x8_1 : Int) := of_decide_eq_true am
             have q109 : x8_1 < (l0_2.length : Int) := of_decide_eq_true am
             obtain ⟨ad109, e109, hx109_0, hx109_1⟩ := at_T37 HR0_2.out x8_1 p109 q109
             cases e109
             replace hx109_0 := cw hx109_0
             replace hx109_1 := cw hx109_1
             replace p109 := eq_true p109
             replace q109 := eq_true q109
             go_wp2_with (first | ((with_reducible refine gate_dst (N := 4) rfl ?_); (try (refine gate_guard (by rfl) ?_; dsimp only)); refine bx 4 #[.int .i64 0, .int .i64 0] 37 ?_; intro gb110 hg w27 hbox hb; have BK110 := ak hbox; have GW110 := gs hg (bl1 GE105); have GE110 := gs hg (bl1 GE105); replace HB := ak (below_step (bl1 GE105) hb); have NB105_110 := nl hg BK105; have NB110_105 := ng hg BK105; replace BK105 := bb BK105 hb; clear hb hbox hg; have hnb28 := NB110_105.out; have hnc28 := NB105_110.out; obtain ⟨hcz29_0, hcz29_1, hfz29_0, hfz29_1⟩ := cz2 BK110) | (go_at_call 122; (with_reducible refine (impl_isTick.calls ((rd_T37 l0_2 x8_1).f0) true _ A7.out).mono ?_); rintro e w' ⟨rfl, ⟨nd, rfl⟩⟩; (try exact dd)) | (go_at_call 150; (with_reducible refine (impl_isSize.calls ((rd_T37 l0_2 x8_1).f1) false _ A9.out).mono ?_); rintro e w' ⟨rfl, ⟨nd, rfl⟩⟩; (try exact dd)))
             repeat (go_quiet (first | ((with_reducible refine gate_dst (N := 4) rfl ?_); (try (refine gate_guard (by rfl) ?_; dsimp only)); refine bx 4 #[.int .i64 0, .int .i64 0] 37 ?_; intro gb110 hg w27 hbox hb; have BK110 := ak hbox; have GW110 := gs hg (bl1 GE105); have GE110 := gs hg (bl1 GE105); replace HB := ak (below_step (bl1 GE105) hb); have NB105_110 := nl hg BK105; have NB110_105 := ng hg BK105; replace BK105 := bb BK105 hb; clear hb hbox hg; have hnb28 := NB110_105.out; have hnc28 := NB105_110.out; obtain ⟨hcz29_0, hcz29_1, hfz29_0, hfz29_1⟩ := cz2 BK110) | (go_at_call 122; (with_reducible refine (impl_isTick.calls ((rd_T37 l0_2 x8_1).f0) true _ A7.out).mono ?_); rintro e w' ⟨rfl, ⟨nd, rfl⟩⟩; (try exact dd)) | (go_at_call 150; (with_reducible refine (impl_isSize.calls ((rd_T37 l0_2 x8_1).f1) false _ A9.out).mono ?_); rintro e w' ⟨rfl, ⟨nd, rfl⟩⟩; (try exact dd))); try go_wp2_with (first | ((with_reducible refine gate_dst (N := 4) rfl ?_); (try (refine gate_guard (by rfl) ?_; dsimp only)); refine bx 4 #[.int .i64 0, .int .i64 0] 37 ?_; intro gb110 hg w27 hbox hb; have BK110 := ak hbox; have GW110 := gs hg (bl1 GE105); have GE110 := gs hg (bl1 GE105); replace HB := ak (below_step (bl1 GE105) hb); have NB105_110 := nl hg BK105; have NB110_105 := ng hg BK105; replace BK105 := bb BK105 hb; clear hb hbox hg; have hnb28 := NB110_105.out; have hnc28 := NB105_110.out; obtain ⟨hcz29_0, hcz29_1, hfz29_0, hfz29_1⟩ := cz2 BK110) | (go_at_call 122; (with_reducible refine (impl_isTick.calls ((rd_T37 l0_2 x8_1).f0) true _ A7.out).mono ?_); rintro e w' ⟨rfl, ⟨nd, rfl⟩⟩; (try exact dd)) | (go_at_call 150; (with_reducible refine (impl_isSize.calls ((rd_T37 l0_2 x8_1).f1) false _ A9.out).mono ?_); rintro e w' ⟨rfl, ⟨nd, rfl⟩⟩; (try exact dd))))
             go_ret
             exact ⟨ew, bl2 GE105 GE110⟩
         · replace c8 := Bool.eq_false_iff.mpr c8
           subst c8
           replace H := iF H
           obtain rfl := Option.some.inj H
           have p109 : 0 ≤ (x8_1 : Int) := of_decide_eq_true am
           have q109 : x8_1 < (l0_2.length : Int) := of_decide_eq_true am
           obtain ⟨ad109, e109, hx109_0, hx109_1⟩ := at_T37 HR0_2.out x8_1 p109 q109
           cases e109
           replace hx109_0 := cw hx109_0
           replace hx109_1 := cw hx109_1
           replace p109 := eq_true p109
           replace q109 := eq_true q109
           go_wp2_with (first | ((with_reducible refine gate_dst (N := 4) rfl ?_); (try (refine gate_guard (by rfl) ?_; dsimp only)); refine bx 4 #[.int .i64 0, .int .i64 0] 37 ?_; intro gb110 hg w30 hbox hb; have BK110 := ak hbox; have GW110 := gs hg (bl1 GE105); have GE110 := gs hg (bl1 GE105); replace HB := ak (below_step (bl1 GE105) hb); have NB105_110 := nl hg BK105; have NB110_105 := ng hg BK105; replace BK105 := bb BK105 hb; clear hb hbox hg; have hnb31 := NB110_105.out; have hnc31 := NB105_110.out; obtain ⟨hcz32_0, hcz32_1, hfz32_0, hfz32_1⟩ := cz2 BK110) | (go_at_call 122; (with_reducible refine (impl_isTick.calls ((rd_T37 l0_2 x8_1).f0) false _ A7.out).mono ?_); rintro e w' ⟨rfl, ⟨nd, rfl⟩⟩; (try exact dd)))
           repeat (go_quiet (first | ((with_reducible refine gate_dst (N := 4) rfl ?_); (try (refine gate_guard (by rfl) ?_; dsimp only)); refine bx 4 #[.int .i64 0, .int .i64 0] 37 ?_; intro gb110 hg w30 hbox hb; have BK110 := ak hbox; have GW110 := gs hg (bl1 GE105); have GE110 := gs hg (bl1 GE105); replace HB := ak (below_step (bl1 GE105) hb); have NB105_110 := nl hg BK105; have NB110_105 := ng hg BK105; replace BK105 := bb BK105 hb; clear hb hbox hg; have hnb31 := NB110_105.out; have hnc31 := NB105_110.out; obtain ⟨hcz32_0, hcz32_1, hfz32_0, hfz32_1⟩ := cz2 BK110) | (go_at_call 122; (with_reducible refine (impl_isTick.calls ((rd_T37 l0_2 x8_1).f0) false _ A7.out).mono ?_); rintro e w' ⟨rfl, ⟨nd, rfl⟩⟩; (try exact dd))); try go_wp2_with (first | ((with_reducible refine gate_dst (N := 4) rfl ?_); (try (refine gate_guard (by rfl) ?_; dsimp only)); refine bx 4 #[.int .i64 0, .int .i64 0] 37 ?_; intro gb110 hg w30 hbox hb; have BK110 := ak hbox; have GW110 := gs hg (bl1 GE105); have GE110 := gs hg (bl1 GE105); replace HB := ak (below_step (bl1 GE105) hb); have NB105_110 := nl hg BK105; have NB110_105 := ng hg BK105; replace BK105 := bb BK105 hb; clear hb hbox hg; have hnb31 := NB110_105.out; have hnc31 := NB105_110.out; obtain ⟨hcz32_0, hcz32_1, hfz32_0, hfz32_1⟩ := cz2 BK110) | (go_at_call 122; (with_reducible refine (impl_isTick.calls ((rd_T37 l0_2 x8_1).f0) false _ A7.out).mono ?_); rintro e w' ⟨rfl, ⟨nd, rfl⟩⟩; (try exact dd))))
           go_ret
           exact ⟨ew, bl2 GE105 GE110⟩
       · rw [if_neg c6] at H
         exact absurd H (by simp)
     · rw [if_neg c5] at H
       exact absurd H (by simp)
   · rw [if_neg c4] at H
     have c4b0 : decide (x8_1 < (l0_2.length : Int)) = false := decide_eq_false c4
     clear c4
     obtain ⟨t106, A330, H⟩ := bo H
     have A33 := Aside0.mk A330
     clear A330
     by_cases c34 : t106 = true
     · subst c34
       replace H := iT H
       obtain ⟨t107, A350, H⟩ := bo H
       have A35 := Aside0.mk A350
       clear A350
       by_cases c36 : t107 = true
       · subst c36
         replace H := iT H
         obtain ⟨t108, A370, H⟩ := bo H
         have A37 := Aside0.mk A370
         clear A370
         obtain rfl := Option.some.inj H
         obtain ⟨hcz38_0, hcz38_1, hcz38_2, hfz38_0, hfz38_1, hfz38_2⟩ := cz3 BK105
         go_wp2_with (first | (go_at_call 151; (with_reducible refine (impl_NameOk.calls k1 a0_0 true _ A33.out).mono ?_); rintro e w' ⟨rfl, ⟨nd, rfl⟩⟩; (try exact dd)) | (go_at_call 151; (with_reducible refine (impl_NameOk.calls k1 a0_1 true _ A35.out).mono ?_); rintro e w' ⟨rfl, ⟨nd, rfl⟩⟩; (try exact dd)) | (go_at_call 124; (with_reducible refine (impl_in.calls (l0_2.length : Int) 1 12 t108 _ A37.out).mono ?_); rintro e w' ⟨rfl, ⟨nd, rfl⟩⟩; (try exact dd)))
         repeat (go_quiet (first | (go_at_call 151; (with_reducible refine (impl_NameOk.calls k1 a0_0 true _ A33.out).mono ?_); rintro e w' ⟨rfl, ⟨nd, rfl⟩⟩; (try exact dd)) | (go_at_call 151; (with_reducible refine (impl_NameOk.calls k1 a0_1 true _ A35.out).mono ?_); rintro e w' ⟨rfl, ⟨nd, rfl⟩⟩; (try exact dd)) | (go_at_call 124; (with_reducible refine (impl_in.calls (l0_2.length : Int) 1 12 t108 _ A37.out).mono ?_); rintro e w' ⟨rfl, ⟨nd, rfl⟩⟩; (try exact dd))); try go_wp2_with (first | (go_at_call 151; (with_reducible refine (impl_NameOk.calls k1 a0_0 true _ A33.out).mono ?_); rintro e w' ⟨rfl, ⟨nd, rfl⟩⟩; (try exact dd)) | (go_at_call 151; (with_reducible refine (impl_NameOk.calls k1 a0_1 true _ A35.out).mono ?_); rintro e w' ⟨rfl, ⟨nd, rfl⟩⟩; (try exact dd)) | (go_at_call 124; (with_reducible refine (impl_in.calls (l0_2.length : Int) 1 12 t108 _ A37.out).mono ?_); rintro e w' ⟨rfl, ⟨nd, rfl⟩⟩; (try exact dd))))
         go_ret
         exact ⟨ew, bl1 GE105⟩
       · replace c36 := Bool.eq_false_iff.mpr c36
         subst c36
         replace H := iF H
         obtain rfl := Option.some.inj H
         obtain ⟨hcz39_0, hcz39_1, hcz39_2, hfz39_0, hfz39_1, hfz39_2⟩ := cz3 BK105
         go_wp2_with (first | (go_at_call 151; (with_reducible refine (impl_NameOk.calls k1 a0_0 true _ A33.out).mono ?_); rintro e w' ⟨rfl, ⟨nd, rfl⟩⟩; (try exact dd)) | (go_at_call 151; (with_reducible refine (impl_NameOk.calls k1 a0_1 false _ A35.out).mono ?_); rintro e w' ⟨rfl, ⟨nd, rfl⟩⟩; (try exact dd)))
         repeat (go_quiet (first | (go_at_call 151; (with_reducible refine (impl_NameOk.calls k1 a0_0 true _ A33.out).mono ?_); rintro e w' ⟨rfl, ⟨nd, rfl⟩⟩; (try exact dd)) | (go_at_call 151; (with_reducible refine (impl_NameOk.calls k1 a0_1 false _ A35.out).mono ?_); rintro e w' ⟨rfl, ⟨nd, rfl⟩⟩; (try exact dd))); try go_wp2_with (first | (go_at_call 151; (with_reducible refine (impl_NameOk.calls k1 a0_0 true _ A33.out).mono ?_); rintro e w' ⟨rfl, ⟨nd, rfl⟩⟩; (try exact dd)) | (go_at_call 151; (with_reducible refine (impl_NameOk.calls k1 a0_1 false _ A35.out).mono ?_); rintro e w' ⟨rfl, ⟨nd, rfl⟩⟩; (try exact dd))))
         go_ret
         exact ⟨ew, bl1 GE105⟩
     · replace c34 := Bool.eq_false_iff.mpr c34
       subst c34
       replace H := iF H
       obtain rfl := Option.some.inj H
       obtain ⟨hcz40_0, hcz40_1, hcz40_2, hfz40_0, hfz40_1, hfz40_2⟩ := cz3 BK105
       go_wp2_with (first | (go_at_call 151; (with_reducible refine (impl_NameOk.calls k1 a0_0 false _ A33.out).mono ?_); rintro e w' ⟨rfl, ⟨nd, rfl⟩⟩; (try exact dd)))
       repeat (go_quiet (first | (go_at_call 151; (with_reducible refine (impl_NameOk.calls k1 a0_0 false _ A33.out).mono ?_); rintro e w' ⟨rfl, ⟨nd, rfl⟩⟩; (try exact dd))); try go_wp2_with (first | (go_at_call 151; (with_reducible refine (impl_NameOk.calls k1 a0_0 false _ A33.out).mono ?_); rintro e w' ⟨rfl, ⟨nd, rfl⟩⟩; (try exact dd))))
       go_ret
       exact ⟨ew, bl1 GE105⟩

end Go.Proofs.Ytplekidnlofioaa.Q
namespace Go.Proofs.Ytplekidnlofioaa.Q
open Go.RowKit Go.Proofs.YtplekidnlofioaaW.PrintWords Go.Proofs.YtplekidnlofioaaW.PrintLast Go.Proofs.YtplekidnlofioaaW.PrintMore
attribute [local go_sem] max2_int min2_int max_two min_two max_three min_three max_four min_four   -- for this text's walks alone
set_option linter.unusedVariables false
set_option linter.unusedSimpArgs false

/-! ### impl_StoreOk: function 49 -/
def impl_StoreOk.l0 : Nat → List (S81) → List (S81) → Int → Int → Option (Bool)
 | 0, _, _, _, _ => none
 | k + 1, x0, x5, x6, x7 => if x7 < x6 then (if 0 ≤ x7 then (if x7 < (x5.length : Int) then ((impl_Series_ok.f k ((rd_T81 x5 x7).f0) ((rd_T81 x5 x7).f1) ((rd_T81 x5 x7).f2)).bind fun t124 => (if t124 = true then (if x7 > 0 then (if 0 ≤ (wrap64 (x7 - 1)) then (if (wrap64 (x7 - 1)) < (x0.length : Int) then ((impl_Series_compare.f k ((rd_T81 x0 (wrap64 (x7 - 1))).f0) ((rd_T81 x0 (wrap64 (x7 - 1))).f1) ((rd_T81 x0 (wrap64 (x7 - 1))).f2) ((rd_T81 x5 x7).f0) ((rd_T81 x5 x7).f1)).bind fun t126 => (if t126 ≥ 0 then (some false) else (impl_StoreOk.l0 k x0 x5 x6 (wrap64 (x7 + 1))))) else (none)) else (none)) else (impl_StoreOk.l0 k x0 x5 x6 (wrap64 (x7 + 1)))) else (some false))) else (none)) else (none)) else (some (decide ((x0.length : Int) ≤ 24)))
def impl_StoreOk.f (k : Nat) (l0 : List (S81)) : Option (Bool) := impl_StoreOk.l0 k l0 l0 (l0.length : Int) 0
theorem impl_StoreOk.mono_l : ∀ k, (∀ y0 y1 y2 y3, LeO (impl_StoreOk.l0 k y0 y1 y2 y3) (impl_StoreOk.l0 (k + 1) y0 y1 y2 y3))
 | 0 => fun _ _ _ _ r h => by simp [impl_StoreOk.l0] at h
 | k + 1 => by
  have ih0 := impl_StoreOk.mono_l k
  · intro y0 y1 y2 y3
    unfold impl_StoreOk.l0
    repeat' first
    | (with_reducible exact ih0 _ _ _ _)
    | (with_reducible exact impl_Series_compare.mono _ _ _ _ _ _)
    | (with_reducible exact impl_Series_ok.mono _ _ _ _)
    | (with_reducible exact LeO.refl _)
    | (with_reducible exact LeO.none _)
    | (with_reducible refine LeO.ite ?_ ?_)
    | (with_reducible refine LeO.bind ?_ (fun _ => ?_))
    | exact ih0 _ _ _ _
    | exact impl_Series_compare.mono _ _ _ _ _ _
    | exact impl_Series_ok.mono _ _ _ _
    | exact LeO.none _
    | refine LeO.ite ?_ ?_
    | refine LeO.bind ?_ (fun _ => ?_)
theorem impl_StoreOk.mono : ∀ a0 k, LeO (impl_StoreOk.f k a0) (impl_StoreOk.f (k + 1) a0) := by
 intro a0 k
 have ih0 := impl_StoreOk.mono_l k
 unfold impl_StoreOk.f
 repeat' first
  | (with_reducible exact ih0 _ _ _ _)
  | (with_reducible exact impl_Series_compare.mono _ _ _ _ _ _)
  | (with_reducible exact impl_Series_ok.mono _ _ _ _)
  | (with_reducible exact LeO.refl _)
  | (with_reducible exact LeO.none _)
  | (with_reducible refine LeO.ite ?_ ?_)
  | (with_reducible refine LeO.bind ?_ (fun _ => ?_))
  | exact ih0 _ _ _ _
  | exact impl_Series_compare.mono _ _ _ _ _ _
  | exact impl_Series_ok.mono _ _ _ _
  | exact LeO.none _
  | refine LeO.ite ?_ ?_
  | refine LeO.bind ?_ (fun _ => ?_)
def impl_StoreOk.T4 : Bool × List (List Nat × List Nat) := (true, [([], []), ([0], [0]), ([1], [1]), ([2, 1], [2]), ([3], [3]), ([4, 3], [3, 4]), ([5, 3, 3], [3, 5]), ([6], [6]), ([6], [6]), ([8, 6], [6, 8]), ([7, 9, 6], [6, 7, 9]), ([10, 6], [6, 10]), ([6], [6]), ([12, 6], [6, 12]), ([6], [6]), ([14, 6], [6, 14]), ([11, 13, 15, 6, 6], [6, 11, 13, 15]), ([16, 6], [6, 16]), ([6, 17, 3], [3, 6, 17]), ([3, 18], [3, 18])])
def impl_StoreOk.B4 : List Nat := [0, 1, 3, 7, 15, 31, 63, 127, 127, 383, 1023, 2047, 127, 4223, 127, 16511, 65535, 131071, 262143, 524287]
theorem impl_StoreOk.tab4 : rtab .any (opsOf Try.f49 4) = impl_StoreOk.T4 := by kernel_rfl
theorem impl_StoreOk.bits4 : waitsOk impl_StoreOk.T4.2 impl_StoreOk.B4 = true := by kernel_rfl
set_option maxHeartbeats 8000000 in
set_option maxRecDepth 100000 in
theorem impl_StoreOk.calls (k : Nat) (A0 : Option Addr) (c0 : Nat) (l0 : List (S81)) (r : Bool) (w : World) (hr0 : Kd.C k81 w A0 l0.length l0) (hc0 : l0.length ≤ c0) (h : impl_StoreOk.f k l0 = some r) :
 Calls Try.prog 49 #[.slice A0 l0.length c0] w fun e w' => e = .returned (.bool r) ∧ Below w.heap.size w w' := by
 have hu81 := Try.underlying81
 have HR0 := Aside0.mk hr0
 have HC0 := Aside0.mk hc0
 clear hr0 hc0
 have HB := Aside0.mk (Below.refl w.heap.size w)
 have H : (impl_StoreOk.l0 k l0 l0 (l0.length : Int) 0) = some r := h
 clear h
 have H' := Aside0.mk H
 clear H
 go_enter Try.func49, Try.ntmps49
 go_wp2
 go_loopg [7] k (fun kq v7 w' => ∃ (x7_1 : Int), v7 = .int .i64 x7_1 ∧ Aside0 (impl_StoreOk.l0 kq l0 l0 (l0.length : Int) x7_1 = some r) ∧ Aside0 (kq ≤ k) ∧ Aside0 (Below w.heap.size w w'))
 case atStart => exact ⟨(0), es, H', ⟨Nat.le_refl _⟩, ⟨bl⟩⟩
 case round =>
  clear H'
  obtain ⟨x7_1, rfl, HA, HK1, HB⟩ := hrel
  cases gk with
  | zero => exact absurd HA.out (by simp [impl_StoreOk.l0])
  | succ k1 =>
   have H := HA.out
   clear HA
   simp only [impl_StoreOk.l0] at H
   by_cases c2 : x7_1 < (l0.length : Int)
   · rw [if_pos c2] at H
     have c2b0 : decide (x7_1 < (l0.length : Int)) = true := decide_eq_true c2
     clear c2
     by_cases c3 : 0 ≤ x7_1
     · rw [if_pos c3] at H
       have c3b0 : decide (0 ≤ x7_1) = true := decide_eq_true c3
       clear c3
       by_cases c4 : x7_1 < (l0.length : Int)
       · rw [if_pos c4] at H
         have c4b0 : decide (x7_1 < (l0.length : Int)) = true := decide_eq_true c4
         clear c4
         obtain ⟨t124, A50, H⟩ := bo H
         have A5 := Aside0.mk A50
         clear A50
         by_cases c6 : t124 = true
         · subst c6
           replace H := iT H
           by_cases c7 : x7_1 > 0
           · rw [if_pos c7] at H
             have c7b0 : decide (0 < x7_1) = true := decide_eq_true c7
             clear c7
             obtain ⟨ji8, hji8⟩ : ∃ j_ : Int, (wrap64 (x7_1 - 1)) = j_ := ⟨_, rfl⟩
             replace H : (if 0 ≤ (ji8) then (if (ji8) < (l0.length : Int) then ((impl_Series_compare.f k1 ((rd_T81 l0 (ji8)).f0) ((rd_T81 l0 (ji8)).f1) ((rd_T81 l0 (ji8)).f2) ((rd_T81 l0 x7_1).f0) ((rd_T81 l0 x7_1).f1)).bind fun t126 => (if t126 ≥ 0 then (some false) else (impl_StoreOk.l0 k1 l0 l0 (l0.length : Int) (wrap64 (x7_1 + 1))))) else (none)) else (none)) = some r := by first | (rw [hji8] at H; exact H) | (simp only [hji8] at H ⊢; exact H)
             (try rw [hji8] at A5)
             have hji8w : (IntKind.i64.wrap (x7_1 - 1)) = ji8 := (i64_w _).trans hji8
             by_cases c9 : 0 ≤ (ji8)
             · rw [if_pos c9] at H
               have c9b0 : decide (0 ≤ (ji8)) = true := decide_eq_true c9
               clear c9
               by_cases c10 : (ji8) < (l0.length : Int)
               · rw [if_pos c10] at H
                 have c10b0 : decide ((ji8) < (l0.length : Int)) = true := decide_eq_true c10
                 clear c10
                 obtain ⟨t126, A110, H⟩ := bo H
                 have A11 := Aside0.mk A110
                 clear A110
                 by_cases c12 : t126 ≥ 0
                 · rw [if_pos c12] at H
                   have c12b0 : decide (0 ≤ t126) = true := decide_eq_true c12
                   clear c12
                   obtain rfl := Option.some.inj H
                   have p122 : 0 ≤ (x7_1 : Int) := of_decide_eq_true am
                   have q122 : x7_1 < (l0.length : Int) := of_decide_eq_true am
                   obtain ⟨ad122, A122_2, c122_2, e122, hx122_0, hx122_1, hx122_2, hl122_2, hi122_2⟩ := at_T81 HR0.out x7_1 p122 q122
                   cases e122
                   replace hx122_0 := cw hx122_0
                   replace hx122_1 := cw hx122_1
                   replace hx122_2 := cw hx122_2
                   have HR122_2 := Aside0.mk hi122_2
                   have HC122_2 := Aside0.mk hl122_2
                   clear hi122_2 hl122_2
                   replace p122 := eq_true p122
                   replace q122 := eq_true q122
                   try go_wp2_with (first | ((with_reducible refine gate_dst (N := 4) rfl ?_); refine bx 4 #[.string (⟨#[]⟩ : ByteArray), .string (⟨#[]⟩ : ByteArray), .slice none 0 0] 81 ?_; intro gb123 hg w13 hbox hb; have BK123 := ak hbox; have GW123 := gs hg bl; have GE123 := gs hg bl; replace HB := ak (below_step bl hb); clear hb hbox hg; obtain ⟨hcz14_0, hcz14_1, hcz14_2, hfz14_0, hfz14_1, hfz14_2⟩ := cz3 BK123))
                   have n0_ : Aside0 ((((w13.setCell ⟨gb123, 0, none⟩ (.string ((rd_T81 l0 x7_1).f0))).setCell ⟨gb123, 1, none⟩ (.string ((rd_T81 l0 x7_1).f1))).setCell ⟨gb123, 2, none⟩ (.slice A122_2 ((rd_T81 l0 x7_1).f2).length c122_2)).heap[gb123]? = some (.cells #[.string ((rd_T81 l0 x7_1).f0), .string ((rd_T81 l0 x7_1).f1), .slice A122_2 ((rd_T81 l0 x7_1).f2).length c122_2] 81 (0, 0))) := ⟨by (with_reducible repeat (first | refine blk_drewN ?_ _ | refine blk_drew ?_ | refine blk_alloc ?_ _)); refine blk_put (cs := #[.string ((rd_T81 l0 x7_1).f0), .string ((rd_T81 l0 x7_1).f1), .slice none 0 0]) ?_ 2 _ rfl; (with_reducible repeat (first | refine blk_drewN ?_ _ | refine blk_drew ?_ | refine blk_alloc ?_ _)); refine blk_put (cs := #[.string ((rd_T81 l0 x7_1).f0), .string (⟨#[]⟩ : ByteArray), .slice none 0 0]) ?_ 1 _ rfl; (with_reducible repeat (first | refine blk_drewN ?_ _ | refine blk_drew ?_ | refine blk_alloc ?_ _)); refine blk_put (cs := #[.string (⟨#[]⟩ : ByteArray), .string (⟨#[]⟩ : ByteArray), .slice none 0 0]) ?_ 0 _ rfl; (with_reducible repeat (first | refine blk_drewN ?_ _ | refine blk_drew ?_ | refine blk_alloc ?_ _)); exact BK123.out⟩
                   have n1_ : Aside0 (Below w.heap.size w (((w13.setCell ⟨gb123, 0, none⟩ (.string ((rd_T81 l0 x7_1).f0))).setCell ⟨gb123, 1, none⟩ (.string ((rd_T81 l0 x7_1).f1))).setCell ⟨gb123, 2, none⟩ (.slice A122_2 ((rd_T81 l0 x7_1).f2).length c122_2))) := ⟨bl1 GE123⟩
                   (try clear BK123)
                   (try clear HB)
                   generalize (((w13.setCell ⟨gb123, 0, none⟩ (.string ((rd_T81 l0 x7_1).f0))).setCell ⟨gb123, 1, none⟩ (.string ((rd_T81 l0 x7_1).f1))).setCell ⟨gb123, 2, none⟩ (.slice A122_2 ((rd_T81 l0 x7_1).f2).length c122_2)) = w15 at n0_ n1_ ⊢
                   have BK123 := n0_
                   have HB := n1_
                   clear n0_ n1_
                   replace BK123 := ak (blk_drew BK123.out)
                   replace HB := ak (below_drew1 HB.out)
                   have p125 : 0 ≤ ((ji8) : Int) := of_decide_eq_true am
                   have q125 : (ji8) < (l0.length : Int) := of_decide_eq_true am
                   obtain ⟨ad125, A125_2, c125_2, e125, hx125_0, hx125_1, hx125_2, hl125_2, hi125_2⟩ := at_T81 HR0.out (ji8) p125 q125
                   have hw125_2 := hx125_2
                   have hw125_1 := hx125_1
                   have hw125_0 := hx125_0
                   obtain rfl : ad122 = ad125 := (by injection e125)
                   replace hx125_0 := cw hx125_0
                   replace hx125_1 := cw hx125_1
                   replace hx125_2 := cw hx125_2
                   have HR125_2 := Aside0.mk hi125_2
                   have HC125_2 := Aside0.mk hl125_2
                   clear hi125_2 hl125_2
                   replace p125 := eq_true p125
                   replace q125 := eq_true q125
                   refine start_ (n := 20) (S := fun w' => w'.cell? ⟨gb123, 0, none⟩ = some (.string ((rd_T81 l0 x7_1).f0)) ∧ w'.cell? ⟨gb123, 1, none⟩ = some (.string ((rd_T81 l0 x7_1).f1)) ∧ w'.cell? ⟨gb123, 2, none⟩ = some (.slice A122_2 ((rd_T81 l0 x7_1).f2).length c122_2) ∧ w'.cell? (ad122.add (((ji8)).toNat * 3)) = some (.string ((rd_T81 l0 (ji8)).f0)) ∧ w'.cell? ⟨(ad122.add (((ji8)).toNat * 3)).block, (ad122.add (((ji8)).toNat * 3)).off + 1, none⟩ = some (.string ((rd_T81 l0 (ji8)).f1)) ∧ w'.cell? ⟨(ad122.add (((ji8)).toNat * 3)).block, (ad122.add (((ji8)).toNat * 3)).off + 2, none⟩ = some (.slice A125_2 ((rd_T81 l0 (ji8)).f2).length c125_2)) (ds := []) (bitsA 20 0) (by kernel_rfl) rfl rfl ⟨bc BK123 0, bc BK123 1, bc BK123 2, (cw hw125_0), (cw hw125_1), (cw hw125_2)⟩ (fun hHeld => ?_); refine with_tabW impl_StoreOk.tab4 impl_StoreOk.bits4 (fun HT_ HW_ => ?_)
                   generalize w15.drew = w16 at BK123 HB HR125_2 hx125_0 hx125_1 hx125_2 hHeld ⊢
                   refine tk 0 (some 12) (bitsA 20 1) hHeld ?_ (hy := Or.inl ⟨by rfl, by rintro w' ⟨s0, s1, s2, s3, s4, s5⟩; go_simp; with_reducible rfl⟩)
                   refine one_ (i := 1) (N := some 13) (bitsA 20 3) rfl rfl (one_of HT_.out (by kernel_rfl)) (by decide) (fun K hK => ?_)
                   refine goes_ Try.func98 (by kernel_rfl) rfl #[.agg #[.string ((rd_T81 l0 x7_1).f0), .string ((rd_T81 l0 x7_1).f1), .slice A122_2 ((rd_T81 l0 x7_1).f2).length c122_2]] (by rfl) rfl rfl mt ?_
                   with_reducible refine (impl_Series_ok.calls k1 ((rd_T81 l0 x7_1).f0) ((rd_T81 l0 x7_1).f1) _ _ ((rd_T81 l0 x7_1).f2) true _ ?side1 ?side2 A5.out).mono ?_
                   (case side1 => exact cb HR122_2)
                   (case side2 => exact HC122_2.out)
                   rintro e w17 ⟨rfl, hb⟩
                   refine ⟨_, rfl, ?_⟩
                   replace BK123 := bb BK123 hb
                   replace HB := ak (below_step (bl1 GE123) hb)
                   (try clear hb)
                   (try clear hb2)
                   (try clear hk)
                   (try clear hi)
                   refine hK.out _ _ ⟨bc BK123 0, bc BK123 1, bc BK123 2, (cw hw125_0), (cw hw125_1), (cw hw125_2)⟩ (fun hHeld => ?_)
                   clear hK K
                   refine nm ?_
                   refine pu 2 (some 14) (bitsA 20 7) ?_
                   refine pu 3 (some 15) (bitsA 20 15) ?_
                   refine pu 4 (some 16) (bitsA 20 31) ?_
                   refine pu 5 (some 17) (bitsA 20 63) ?_
                   refine pu 6 (some 18) (bitsA 20 127) ?_
                   refine pu 7 (some 19) (bitsA 20 255) ?_
                   refine pu 8 (some 20) (bitsA 20 511) ?_
                   refine pu 9 (some 21) (bitsA 20 1023) ?_
                   refine pu 10 (some 22) (bitsA 20 2047) ?_
                   refine tk 11 (some 23) (bitsA 20 4095) hHeld ?_ (hy := Or.inl ⟨by rfl, by rintro w' ⟨s0, s1, s2, s3, s4, s5⟩; go_simp; with_reducible rfl⟩)
                   refine pu 12 (some 24) (bitsA 20 8191) ?_
                   refine tk 13 (some 25) (bitsA 20 16383) hHeld ?_ (hy := Or.inl ⟨by rfl, by rintro w' ⟨s0, s1, s2, s3, s4, s5⟩; go_simp; with_reducible rfl⟩)
                   refine pu 14 (some 26) (bitsA 20 32767) ?_
                   refine tk 15 (some 27) (bitsA 20 65535) hHeld ?_ (hy := Or.inl ⟨by rfl, by rintro w' ⟨s0, s1, s2, s3, s4, s5⟩; go_simp; with_reducible rfl⟩)
                   refine one_ (i := 16) (N := some 28) (bitsA 20 131071) rfl rfl (one_of HT_.out (by kernel_rfl)) (by decide) (fun K hK => ?_)
                   refine goes_ Try.func99 (by kernel_rfl) rfl #[.agg #[.string ((rd_T81 l0 (ji8)).f0), .string ((rd_T81 l0 (ji8)).f1), .slice A125_2 ((rd_T81 l0 (ji8)).f2).length c125_2], .string ((rd_T81 l0 x7_1).f0), .string ((rd_T81 l0 x7_1).f1)] (by rfl) rfl rfl (by (try simp only [List.map_toArray, List.map_cons, List.map_nil]); first | done | (simp only [hji8]; rfl) | rfl | (simp only [List.length_drop, List.length_take]; rfl)) ?_
                   with_reducible refine (impl_Series_compare.calls k1 ((rd_T81 l0 (ji8)).f0) ((rd_T81 l0 (ji8)).f1) _ _ ((rd_T81 l0 (ji8)).f2) ((rd_T81 l0 x7_1).f0) ((rd_T81 l0 x7_1).f1) t126 _ ?side1 ?side2 A11.out).mono ?_
                   (case side1 => exact cb HR125_2)
                   (case side2 => exact HC125_2.out)
                   rintro e w18 ⟨rfl, hb⟩
                   refine ⟨_, rfl, ?_⟩
                   replace BK123 := bb BK123 hb
                   replace HB := ak (below_step (bl1 GE123) hb)
                   (try clear hb)
                   (try clear hb2)
                   (try clear hk)
                   (try clear hi)
                   refine hK.out _ _ ⟨bc BK123 0, bc BK123 1, bc BK123 2, (cw hw125_0), (cw hw125_1), (cw hw125_2)⟩ (fun hHeld => ?_)
                   clear hK K
                   refine nm ?_
                   refine pu 17 (some 29) (bitsA 20 262143) ?_
                   refine pu 18 (some 30) (bitsA 20 524287) ?_
                   refine pu 19 (some 31) (bitsA 20 1048575) ?_
                   refine done_ (done_of HT_.out (by kernel_rfl)) ?_
                   try go_wp2
                   go_ret
                   exact ⟨by first | rfl | (simp [errW_none, errW_some] <;> rfl) | (simp only [← hji8]; first | rfl | (simp [errW_none, errW_some] <;> rfl)) | (simp [*, errW_none, errW_some] <;> rfl), bl1 GE123⟩
                 · rw [if_neg c12] at H
                   have c12b0 : decide (0 ≤ t126) = false := decide_eq_false c12
                   clear c12
                   have H' := Aside0.mk H
                   clear H
                   have p122 : 0 ≤ (x7_1 : Int) := of_decide_eq_true am
                   have q122 : x7_1 < (l0.length : Int) := of_decide_eq_true am
                   obtain ⟨ad122, A122_2, c122_2, e122, hx122_0, hx122_1, hx122_2, hl122_2, hi122_2⟩ := at_T81 HR0.out x7_1 p122 q122
                   cases e122
                   replace hx122_0 := cw hx122_0
                   replace hx122_1 := cw hx122_1
                   replace hx122_2 := cw hx122_2
                   have HR122_2 := Aside0.mk hi122_2
                   have HC122_2 := Aside0.mk hl122_2
                   clear hi122_2 hl122_2
                   replace p122 := eq_true p122
                   replace q122 := eq_true q122
                   try go_wp2_with (first | ((with_reducible refine gate_dst (N := 4) rfl ?_); refine bx 4 #[.string (⟨#[]⟩ : ByteArray), .string (⟨#[]⟩ : ByteArray), .slice none 0 0] 81 ?_; intro gb123 hg w19 hbox hb; have BK123 := ak hbox; have GW123 := gs hg bl; have GE123 := gs hg bl; replace HB := ak (below_step bl hb); clear hb hbox hg; obtain ⟨hcz20_0, hcz20_1, hcz20_2, hfz20_0, hfz20_1, hfz20_2⟩ := cz3 BK123))
                   have n0_ : Aside0 ((((w19.setCell ⟨gb123, 0, none⟩ (.string ((rd_T81 l0 x7_1).f0))).setCell ⟨gb123, 1, none⟩ (.string ((rd_T81 l0 x7_1).f1))).setCell ⟨gb123, 2, none⟩ (.slice A122_2 ((rd_T81 l0 x7_1).f2).length c122_2)).heap[gb123]? = some (.cells #[.string ((rd_T81 l0 x7_1).f0), .string ((rd_T81 l0 x7_1).f1), .slice A122_2 ((rd_T81 l0 x7_1).f2).length c122_2] 81 (0, 0))) := ⟨by (with_reducible repeat (first | refine blk_drewN ?_ _ | refine blk_drew ?_ | refine blk_alloc ?_ _)); refine blk_put (cs := #[.string ((rd_T81 l0 x7_1).f0), .string ((rd_T81 l0 x7_1).f1), .slice none 0 0]) ?_ 2 _ rfl; (with_reducible repeat (first | refine blk_drewN ?_ _ | refine blk_drew ?_ | refine blk_alloc ?_ _)); refine blk_put (cs := #[.string ((rd_T81 l0 x7_1).f0), .string (⟨#[]⟩ : ByteArray), .slice none 0 0]) ?_ 1 _ rfl; (with_reducible repeat (first | refine blk_drewN ?_ _ | refine blk_drew ?_ | refine blk_alloc ?_ _)); refine blk_put (cs := #[.string (⟨#[]⟩ : ByteArray), .string (⟨#[]⟩ : ByteArray), .slice none 0 0]) ?_ 0 _ rfl; (with_reducible repeat (first | refine blk_drewN ?_ _ | refine blk_drew ?_ | refine blk_alloc ?_ _)); exact BK123.out⟩
                   have n1_ : Aside0 (Below w.heap.size w (((w19.setCell ⟨gb123, 0, none⟩ (.string ((rd_T81 l0 x7_1).f0))).setCell ⟨gb123, 1, none⟩ (.string ((rd_T81 l0 x7_1).f1))).setCell ⟨gb123, 2, none⟩ (.slice A122_2 ((rd_T81 l0 x7_1).f2).length c122_2))) := ⟨bl1 GE123⟩
                   (try clear BK123)
                   (try clear HB)
                   generalize (((w19.setCell ⟨gb123, 0, none⟩ (.string ((rd_T81 l0 x7_1).f0))).setCell ⟨gb123, 1, none⟩ (.string ((rd_T81 l0 x7_1).f1))).setCell ⟨gb123, 2, none⟩ (.slice A122_2 ((rd_T81 l0 x7_1).f2).length c122_2)) = w21 at n0_ n1_ ⊢
                   have BK123 := n0_
                   have HB := n1_
                   clear n0_ n1_
                   replace BK123 := ak (blk_drew BK123.out)
                   replace HB := ak (below_drew1 HB.out)
                   have p125 : 0 ≤ ((ji8) : Int) := of_decide_eq_true am
                   have q125 : (ji8) < (l0.length : Int) := of_decide_eq_true am
                   obtain ⟨ad125, A125_2, c125_2, e125, hx125_0, hx125_1, hx125_2, hl125_2, hi125_2⟩ := at_T81 HR0.out (ji8) p125 q125
                   have hw125_2 := hx125_2
                   have hw125_1 := hx125_1
                   have hw125_0 := hx125_0
                   obtain rfl : ad122 = ad125 := (by injection e125)
                   replace hx125_0 := cw hx125_0
                   replace hx125_1 := cw hx125_1
                   replace hx125_2 := cw hx125_2
                   have HR125_2 := Aside0.mk hi125_2
                   have HC125_2 := Aside0.mk hl125_2
                   clear hi125_2 hl125_2
                   replace p125 := eq_true p125
                   replace q125 := eq_true q125
                   refine start_ (n := 20) (S := fun w' => w'.cell? ⟨gb123, 0, none⟩ = some (.string ((rd_T81 l0 x7_1).f0)) ∧ w'.cell? ⟨gb123, 1, none⟩ = some (.string ((rd_T81 l0 x7_1).f1)) ∧ w'.cell? ⟨gb123, 2, none⟩ = some (.slice A122_2 ((rd_T81 l0 x7_1).f2).length c122_2) ∧ w'.cell? (ad122.add (((ji8)).toNat * 3)) = some (.string ((rd_T81 l0 (ji8)).f0)) ∧ w'.cell? ⟨(ad122.add (((ji8)).toNat * 3)).block, (ad122.add (((ji8)).toNat * 3)).off + 1, none⟩ = some (.string ((rd_T81 l0 (ji8)).f1)) ∧ w'.cell? ⟨(ad122.add (((ji8)).toNat * 3)).block, (ad122.add (((ji8)).toNat * 3)).off + 2, none⟩ = some (.slice A125_2 ((rd_T81 l0 (ji8)).f2).length c125_2)) (ds := []) (bitsA 20 0) (by kernel_rfl) rfl rfl ⟨bc BK123 0, bc BK123 1, bc BK123 2, (cw hw125_0), (cw hw125_1), (cw hw125_2)⟩ (fun hHeld => ?_); refine with_tabW impl_StoreOk.tab4 impl_StoreOk.bits4 (fun HT_ HW_ => ?_)
                   generalize w21.drew = w22 at BK123 HB HR125_2 hx125_0 hx125_1 hx125_2 hHeld ⊢
                   refine tk 0 (some 12) (bitsA 20 1) hHeld ?_ (hy := Or.inl ⟨by rfl, by rintro w' ⟨s0, s1, s2, s3, s4, s5⟩; go_simp; with_reducible rfl⟩)
                   refine one_ (i := 1) (N := some 13) (bitsA 20 3) rfl rfl (one_of HT_.out (by kernel_rfl)) (by decide) (fun K hK => ?_)
                   refine goes_ Try.func98 (by kernel_rfl) rfl #[.agg #[.string ((rd_T81 l0 x7_1).f0), .string ((rd_T81 l0 x7_1).f1), .slice A122_2 ((rd_T81 l0 x7_1).f2).length c122_2]] (by rfl) rfl rfl mt ?_
                   with_reducible refine (impl_Series_ok.calls k1 ((rd_T81 l0 x7_1).f0) ((rd_T81 l0 x7_1).f1) _ _ ((rd_T81 l0 x7_1).f2) true _ ?side1 ?side2 A5.out).mono ?_
                   (case side1 => exact cb HR122_2)
                   (case side2 => exact HC122_2.out)
                   rintro e w23 ⟨rfl, hb⟩
                   refine ⟨_, rfl, ?_⟩
                   replace BK123 := bb BK123 hb
                   replace HB := ak (below_step (bl1 GE123) hb)
                   (try clear hb)
                   (try clear hb2)
                   (try clear hk)
                   (try clear hi)
                   refine hK.out _ _ ⟨bc BK123 0, bc BK123 1, bc BK123 2, (cw hw125_0), (cw hw125_1), (cw hw125_2)⟩ (fun hHeld => ?_)
                   clear hK K
                   refine nm ?_
                   refine pu 2 (some 14) (bitsA 20 7) ?_
                   refine pu 3 (some 15) (bitsA 20 15) ?_
                   refine pu 4 (some 16) (bitsA 20 31) ?_
                   refine pu 5 (some 17) (bitsA 20 63) ?_
                   refine pu 6 (some 18) (bitsA 20 127) ?_
                   refine pu 7 (some 19) (bitsA 20 255) ?_
                   refine pu 8 (some 20) (bitsA 20 511) ?_
                   refine pu 9 (some 21) (bitsA 20 1023) ?_
                   refine pu 10 (some 22) (bitsA 20 2047) ?_
                   refine tk 11 (some 23) (bitsA 20 4095) hHeld ?_ (hy := Or.inl ⟨by rfl, by rintro w' ⟨s0, s1, s2, s3, s4, s5⟩; go_simp; with_reducible rfl⟩)
                   refine pu 12 (some 24) (bitsA 20 8191) ?_
                   refine tk 13 (some 25) (bitsA 20 16383) hHeld ?_ (hy := Or.inl ⟨by rfl, by rintro w' ⟨s0, s1, s2, s3, s4, s5⟩; go_simp; with_reducible rfl⟩)
                   refine pu 14 (some 26) (bitsA 20 32767) ?_
                   refine tk 15 (some 27) (bitsA 20 65535) hHeld ?_ (hy := Or.inl ⟨by rfl, by rintro w' ⟨s0, s1, s2, s3, s4, s5⟩; go_simp; with_reducible rfl⟩)
                   refine one_ (i := 16) (N := some 28) (bitsA 20 131071) rfl rfl (one_of HT_.out (by kernel_rfl)) (by decide) (fun K hK => ?_)
                   refine goes_ Try.func99 (by kernel_rfl) rfl #[.agg #[.string ((rd_T81 l0 (ji8)).f0), .string ((rd_T81 l0 (ji8)).f1), .slice A125_2 ((rd_T81 l0 (ji8)).f2).length c125_2], .string ((rd_T81 l0 x7_1).f0), .string ((rd_T81 l0 x7_1).f1)] (by rfl) rfl rfl (by (try simp only [List.map_toArray, List.map_cons, List.map_nil]); first | done | (simp only [hji8]; rfl) | rfl | (simp only [List.length_drop, List.length_take]; rfl)) ?_
                   with_reducible refine (impl_Series_compare.calls k1 ((rd_T81 l0 (ji8)).f0) ((rd_T81 l0 (ji8)).f1) _ _ ((rd_T81 l0 (ji8)).f2) ((rd_T81 l0 x7_1).f0) ((rd_T81 l0 x7_1).f1) t126 _ ?side1 ?side2 A11.out).mono ?_
                   (case side1 => exact cb HR125_2)
                   (case side2 => exact HC125_2.out)
                   rintro e w24 ⟨rfl, hb⟩
                   refine ⟨_, rfl, ?_⟩
                   replace BK123 := bb BK123 hb
                   replace HB := ak (below_step (bl1 GE123) hb)
                   (try clear hb)
                   (try clear hb2)
                   (try clear hk)
                   (try clear hi)
                   refine hK.out _ _ ⟨bc BK123 0, bc BK123 1, bc BK123 2, (cw hw125_0), (cw hw125_1), (cw hw125_2)⟩ (fun hHeld => ?_)
                   clear hK K
                   refine nm ?_
                   refine pu 17 (some 29) (bitsA 20 262143) ?_
                   refine pu 18 (some 30) (bitsA 20 524287) ?_
                   refine pu 19 (some 31) (bitsA 20 1048575) ?_
                   refine done_ (done_of HT_.out (by kernel_rfl)) ?_
                   try go_wp2
                   go_roundg k1
                   case measure => have := HK1.out; omega
                   case rel => exact ⟨(wrap64 (x7_1 + 1)), es, H', ⟨kp⟩, ⟨bl1 GE123⟩⟩
               · rw [if_neg c10] at H
                 exact absurd H (by simp)
             · rw [if_neg c9] at H
               exact absurd H (by simp)
           · rw [if_neg c7] at H
             have c7b0 : decide (0 < x7_1) = false := decide_eq_false c7
             clear c7
             have H' := Aside0.mk H
             clear H
             have p122 : 0 ≤ (x7_1 : Int) := of_decide_eq_true am
             have q122 : x7_1 < (l0.length : Int) := of_decide_eq_true am
             obtain ⟨ad122, A122_2, c122_2, e122, hx122_0, hx122_1, hx122_2, hl122_2, hi122_2⟩ := at_T81 HR0.out x7_1 p122 q122
             cases e122
             replace hx122_0 := cw hx122_0
             replace hx122_1 := cw hx122_1
             replace hx122_2 := cw hx122_2
             have HR122_2 := Aside0.mk hi122_2
             have HC122_2 := Aside0.mk hl122_2
             clear hi122_2 hl122_2
             replace p122 := eq_true p122
             replace q122 := eq_true q122
             try go_wp2_with (first | ((with_reducible refine gate_dst (N := 4) rfl ?_); refine bx 4 #[.string (⟨#[]⟩ : ByteArray), .string (⟨#[]⟩ : ByteArray), .slice none 0 0] 81 ?_; intro gb123 hg w25 hbox hb; have BK123 := ak hbox; have GW123 := gs hg bl; have GE123 := gs hg bl; replace HB := ak (below_step bl hb); clear hb hbox hg; obtain ⟨hcz26_0, hcz26_1, hcz26_2, hfz26_0, hfz26_1, hfz26_2⟩ := cz3 BK123))
             have n0_ : Aside0 ((((w25.setCell ⟨gb123, 0, none⟩ (.string ((rd_T81 l0 x7_1).f0))).setCell ⟨gb123, 1, none⟩ (.string ((rd_T81 l0 x7_1).f1))).setCell ⟨gb123, 2, none⟩ (.slice A122_2 ((rd_T81 l0 x7_1).f2).length c122_2)).heap[gb123]? = some (.cells #[.string ((rd_T81 l0 x7_1).f0), .string ((rd_T81 l0 x7_1).f1), .slice A122_2 ((rd_T81 l0 x7_1).f2).length c122_2] 81 (0, 0))) := ⟨by (with_reducible repeat (first | refine blk_drewN ?_ _ | refine blk_drew ?_ | refine blk_alloc ?_ _)); refine blk_put (cs := #[.string ((rd_T81 l0 x7_1).f0), .string ((rd_T81 l0 x7_1).f1), .slice none 0 0]) ?_ 2 _ rfl; (with_reducible repeat (first | refine blk_drewN ?_ _ | refine blk_drew ?_ | refine blk_alloc ?_ _)); refine blk_put (cs := #[.string ((rd_T81 l0 x7_1).f0), .string (⟨#[]⟩ : ByteArray), .slice none 0 0]) ?_ 1 _ rfl; (with_reducible repeat (first | refine blk_drewN ?_ _ | refine blk_drew ?_ | refine blk_alloc ?_ _)); refine blk_put (cs := #[.string (⟨#[]⟩ : ByteArray), .string (⟨#[]⟩ : ByteArray), .slice none 0 0]) ?_ 0 _ rfl; (with_reducible repeat (first | refine blk_drewN ?_ _ | refine blk_drew ?_ | refine blk_alloc ?_ _)); exact BK123.out⟩
             have n1_ : Aside0 (Below w.heap.size w (((w25.setCell ⟨gb123, 0, none⟩ (.string ((rd_T81 l0 x7_1).f0))).setCell ⟨gb123, 1, none⟩ (.string ((rd_T81 l0 x7_1).f1))).setCell ⟨gb123, 2, none⟩ (.slice A122_2 ((rd_T81 l0 x7_1).f2).length c122_2))) := ⟨bl1 GE123⟩
             (try clear BK123)
             (try clear HB)
             generalize (((w25.setCell ⟨gb123, 0, none⟩ (.string ((rd_T81 l0 x7_1).f0))).setCell ⟨gb123, 1, none⟩ (.string ((rd_T81 l0 x7_1).f1))).setCell ⟨gb123, 2, none⟩ (.slice A122_2 ((rd_T81 l0 x7_1).f2).length c122_2)) = w27 at n0_ n1_ ⊢
             have BK123 := n0_
             have HB := n1_
             clear n0_ n1_
             replace BK123 := ak (blk_drew BK123.out)
             replace HB := ak (below_drew1 HB.out)
             refine start_ (n := 20) (S := fun w' => w'.cell? ⟨gb123, 0, none⟩ = some (.string ((rd_T81 l0 x7_1).f0)) ∧ w'.cell? ⟨gb123, 1, none⟩ = some (.string ((rd_T81 l0 x7_1).f1)) ∧ w'.cell? ⟨gb123, 2, none⟩ = some (.slice A122_2 ((rd_T81 l0 x7_1).f2).length c122_2)) (ds := []) (bitsA 20 0) (by kernel_rfl) rfl rfl ⟨bc BK123 0, bc BK123 1, bc BK123 2⟩ (fun hHeld => ?_); refine with_tabW impl_StoreOk.tab4 impl_StoreOk.bits4 (fun HT_ HW_ => ?_)
             generalize w27.drew = w28 at BK123 HB hHeld ⊢
             refine tk 0 (some 12) (bitsA 20 1) hHeld ?_ (hy := Or.inl ⟨by rfl, by rintro w' ⟨s0, s1, s2⟩; go_simp; with_reducible rfl⟩)
             refine one_ (i := 1) (N := some 13) (bitsA 20 3) rfl rfl (one_of HT_.out (by kernel_rfl)) (by decide) (fun K hK => ?_)
             refine goes_ Try.func98 (by kernel_rfl) rfl #[.agg #[.string ((rd_T81 l0 x7_1).f0), .string ((rd_T81 l0 x7_1).f1), .slice A122_2 ((rd_T81 l0 x7_1).f2).length c122_2]] (by rfl) rfl rfl mt ?_
             with_reducible refine (impl_Series_ok.calls k1 ((rd_T81 l0 x7_1).f0) ((rd_T81 l0 x7_1).f1) _ _ ((rd_T81 l0 x7_1).f2) true _ ?side1 ?side2 A5.out).mono ?_
             (case side1 => exact cb HR122_2)
             (case side2 => exact HC122_2.out)
             rintro e w29 ⟨rfl, hb⟩
             refine ⟨_, rfl, ?_⟩
             replace BK123 := bb BK123 hb
             replace HB := ak (below_step (bl1 GE123) hb)
             (try clear hb)
             (try clear hb2)
             (try clear hk)
             (try clear hi)
             refine hK.out _ _ ⟨bc BK123 0, bc BK123 1, bc BK123 2⟩ (fun hHeld => ?_)
             clear hK K
             refine nm ?_
             refine pu 2 (some 14) (bitsA 20 7) ?_
             refine pu 3 (some 15) (bitsA 20 15) ?_
             refine pu 4 (some 16) (bitsA 20 31) ?_
             refine pu 5 (some 17) (bitsA 20 63) ?_
             refine pu 6 (some 18) (bitsA 20 127) ?_
             refine pure_ (i := 7) (N := some 19) (v := undef) (a' := ?_) (bitsA 20 255) rfl rfl (any_of HT_.out (by kernel_rfl)) (fun _ _ _ h => h) (Or.inr ⟨by rfl, rfl⟩) ?_ ?_; rotate_left; (· (simp only [Act.put, List.setIfInBounds_toArray, List.set_cons_zero, List.set_cons_succ, i64_w, i32_w]; rfl))
             refine pure_ (i := 8) (N := some 20) (v := undef) (a' := ?_) (bitsA 20 511) rfl rfl (any_of HT_.out (by kernel_rfl)) (fun _ _ _ h => h) (Or.inr ⟨by rfl, rfl⟩) ?_ ?_; rotate_left; (· (simp only [Act.put, List.setIfInBounds_toArray, List.set_cons_zero, List.set_cons_succ, i64_w, i32_w]; rfl))
             refine pure_ (i := 9) (N := some 21) (v := undef) (a' := ?_) (bitsA 20 1023) rfl rfl (any_of HT_.out (by kernel_rfl)) (fun _ _ _ h => h) (Or.inr ⟨by rfl, rfl⟩) ?_ ?_; rotate_left; (· (simp only [Act.put, List.setIfInBounds_toArray, List.set_cons_zero, List.set_cons_succ, i64_w, i32_w]; rfl))
             refine pure_ (i := 10) (N := some 22) (v := undef) (a' := ?_) (bitsA 20 2047) rfl rfl (any_of HT_.out (by kernel_rfl)) (fun _ _ _ h => h) (Or.inr ⟨by rfl, rfl⟩) ?_ ?_; rotate_left; (· (simp only [Act.put, List.setIfInBounds_toArray, List.set_cons_zero, List.set_cons_succ, i64_w, i32_w]; rfl))
             refine pure_ (i := 11) (N := some 23) (v := undef) (a' := ?_) (bitsA 20 4095) rfl rfl (any_of HT_.out (by kernel_rfl)) (fun _ _ _ h => h) (Or.inr ⟨by rfl, rfl⟩) ?_ ?_; rotate_left; (· (simp only [Act.put, List.setIfInBounds_toArray, List.set_cons_zero, List.set_cons_succ, i64_w, i32_w]; rfl))
             refine pure_ (i := 12) (N := some 24) (v := undef) (a' := ?_) (bitsA 20 8191) rfl rfl (any_of HT_.out (by kernel_rfl)) (fun _ _ _ h => h) (Or.inr ⟨by rfl, rfl⟩) ?_ ?_; rotate_left; (· (simp only [Act.put, List.setIfInBounds_toArray, List.set_cons_zero, List.set_cons_succ, i64_w, i32_w]; rfl))
             refine pure_ (i := 13) (N := some 25) (v := undef) (a' := ?_) (bitsA 20 16383) rfl rfl (any_of HT_.out (by kernel_rfl)) (fun _ _ _ h => h) (Or.inr ⟨by rfl, rfl⟩) ?_ ?_; rotate_left; (· (simp only [Act.put, List.setIfInBounds_toArray, List.set_cons_zero, List.set_cons_succ, i64_w, i32_w]; rfl))
             refine pure_ (i := 14) (N := some 26) (v := undef) (a' := ?_) (bitsA 20 32767) rfl rfl (any_of HT_.out (by kernel_rfl)) (fun _ _ _ h => h) (Or.inr ⟨by rfl, rfl⟩) ?_ ?_; rotate_left; (· (simp only [Act.put, List.setIfInBounds_toArray, List.set_cons_zero, List.set_cons_succ, i64_w, i32_w]; rfl))
             refine pure_ (i := 15) (N := some 27) (v := undef) (a' := ?_) (bitsA 20 65535) rfl rfl (any_of HT_.out (by kernel_rfl)) (fun _ _ _ h => h) (Or.inr ⟨by rfl, rfl⟩) ?_ ?_; rotate_left; (· (simp only [Act.put, List.setIfInBounds_toArray, List.set_cons_zero, List.set_cons_succ, i64_w, i32_w]; rfl))
             refine pure_ (i := 16) (N := some 28) (v := undef) (a' := ?_) (bitsA 20 131071) rfl rfl (any_of HT_.out (by kernel_rfl)) (fun _ _ _ h => h) (Or.inr ⟨by rfl, rfl⟩) ?_ ?_; rotate_left; (· (simp only [Act.put, List.setIfInBounds_toArray, List.set_cons_zero, List.set_cons_succ, i64_w, i32_w]; rfl))
             refine pure_ (i := 17) (N := some 29) (v := undef) (a' := ?_) (bitsA 20 262143) rfl rfl (any_of HT_.out (by kernel_rfl)) (fun _ _ _ h => h) (Or.inr ⟨by rfl, rfl⟩) ?_ ?_; rotate_left; (· (simp only [Act.put, List.setIfInBounds_toArray, List.set_cons_zero, List.set_cons_succ, i64_w, i32_w]; rfl))
             refine pu 18 (some 30) (bitsA 20 524287) ?_
             refine pu 19 (some 31) (bitsA 20 1048575) ?_
             refine done_ (done_of HT_.out (by kernel_rfl)) ?_
             try go_wp2
             go_roundg k1
             case measure => have := HK1.out; omega
             case rel => exact ⟨(wrap64 (x7_1 + 1)), es, H', ⟨kp⟩, ⟨bl1 GE123⟩⟩
         · replace c6 := Bool.eq_false_iff.mpr c6
           subst c6
           replace H := iF H
           obtain rfl := Option.some.inj H
           have p122 : 0 ≤ (x7_1 : Int) := of_decide_eq_true am
           have q122 : x7_1 < (l0.length : Int) := of_decide_eq_true am
           obtain ⟨ad122, A122_2, c122_2, e122, hx122_0, hx122_1, hx122_2, hl122_2, hi122_2⟩ := at_T81 HR0.out x7_1 p122 q122
           cases e122
           replace hx122_0 := cw hx122_0
           replace hx122_1 := cw hx122_1
           replace hx122_2 := cw hx122_2
           have HR122_2 := Aside0.mk hi122_2
           have HC122_2 := Aside0.mk hl122_2
           clear hi122_2 hl122_2
           replace p122 := eq_true p122
           replace q122 := eq_true q122
           try go_wp2_with (first | ((with_reducible refine gate_dst (N := 4) rfl ?_); refine bx 4 #[.string (⟨#[]⟩ : ByteArray), .string (⟨#[]⟩ : ByteArray), .slice none 0 0] 81 ?_; intro gb123 hg w30 hbox hb; have BK123 := ak hbox; have GW123 := gs hg bl; have GE123 := gs hg bl; replace HB := ak (below_step bl hb); clear hb hbox hg; obtain ⟨hcz31_0, hcz31_1, hcz31_2, hfz31_0, hfz31_1, hfz31_2⟩ := cz3 BK123))
           have n0_ : Aside0 ((((w30.setCell ⟨gb123, 0, none⟩ (.string ((rd_T81 l0 x7_1).f0))).setCell ⟨gb123, 1, none⟩ (.string ((rd_T81 l0 x7_1).f1))).setCell ⟨gb123, 2, none⟩ (.slice A122_2 ((rd_T81 l0 x7_1).f2).length c122_2)).heap[gb123]? = some (.cells #[.string ((rd_T81 l0 x7_1).f0), .string ((rd_T81 l0 x7_1).f1), .slice A122_2 ((rd_T81 l0 x7_1).f2).length c122_2] 81 (0, 0))) := ⟨by (with_reducible repeat (first | refine blk_drewN ?_ _ | refine blk_drew ?_ | refine blk_alloc ?_ _)); refine blk_put (cs := #[.string ((rd_T81 l0 x7_1).f0), .string ((rd_T81 l0 x7_1).f1), .slice none 0 0]) ?_ 2 _ rfl; (with_reducible repeat (first | refine blk_drewN ?_ _ | refine blk_drew ?_ | refine blk_alloc ?_ _)); refine blk_put (cs := #[.string ((rd_T81 l0 x7_1).f0), .string (⟨#[]⟩ : ByteArray), .slice none 0 0]) ?_ 1 _ rfl; (with_reducible repeat (first | refine blk_drewN ?_ _ | refine blk_drew ?_ | refine blk_alloc ?_ _)); refine blk_put (cs := #[.string (⟨#[]⟩ : ByteArray), .string (⟨#[]⟩ : ByteArray), .slice none 0 0]) ?_ 0 _ rfl; (with_reducible repeat (first | refine blk_drewN ?_ _ | refine blk_drew ?_ | refine blk_alloc ?_ _)); exact BK123.out⟩
           have n1_ : Aside0 (Below w.heap.size w (((w30.setCell ⟨gb123, 0, none⟩ (.string ((rd_T81 l0 x7_1).f0))).setCell ⟨gb123, 1, none⟩ (.string ((rd_T81 l0 x7_1).f1))).setCell ⟨gb123, 2, none⟩ (.slice A122_2 ((rd_T81 l0 x7_1).f2).length c122_2))) := ⟨bl1 GE123⟩
           (try clear BK123)
           (try clear HB)
           generalize (((w30.setCell ⟨gb123, 0, none⟩ (.string ((rd_T81 l0 x7_1).f0))).setCell ⟨gb123, 1, none⟩ (.string ((rd_T81 l0 x7_1).f1))).setCell ⟨gb123, 2, none⟩ (.slice A122_2 ((rd_T81 l0 x7_1).f2).length c122_2)) = w32 at n0_ n1_ ⊢
           have BK123 := n0_
           have HB := n1_
           clear n0_ n1_
           replace BK123 := ak (blk_drew BK123.out)
           replace HB := ak (below_drew1 HB.out)
           refine start_ (n := 20) (S := fun w' => w'.cell? ⟨gb123, 0, none⟩ = some (.string ((rd_T81 l0 x7_1).f0)) ∧ w'.cell? ⟨gb123, 1, none⟩ = some (.string ((rd_T81 l0 x7_1).f1)) ∧ w'.cell? ⟨gb123, 2, none⟩ = some (.slice A122_2 ((rd_T81 l0 x7_1).f2).length c122_2)) (ds := []) (bitsA 20 0) (by kernel_rfl) rfl rfl ⟨bc BK123 0, bc BK123 1, bc BK123 2⟩ (fun hHeld => ?_); refine with_tabW impl_StoreOk.tab4 impl_StoreOk.bits4 (fun HT_ HW_ => ?_)
           generalize w32.drew = w33 at BK123 HB hHeld ⊢
           refine tk 0 (some 12) (bitsA 20 1) hHeld ?_ (hy := Or.inl ⟨by rfl, by rintro w' ⟨s0, s1, s2⟩; go_simp; with_reducible rfl⟩)
           refine one_ (i := 1) (N := some 13) (bitsA 20 3) rfl rfl (one_of HT_.out (by kernel_rfl)) (by decide) (fun K hK => ?_)
           refine goes_ Try.func98 (by kernel_rfl) rfl #[.agg #[.string ((rd_T81 l0 x7_1).f0), .string ((rd_T81 l0 x7_1).f1), .slice A122_2 ((rd_T81 l0 x7_1).f2).length c122_2]] (by rfl) rfl rfl mt ?_
           with_reducible refine (impl_Series_ok.calls k1 ((rd_T81 l0 x7_1).f0) ((rd_T81 l0 x7_1).f1) _ _ ((rd_T81 l0 x7_1).f2) false _ ?side1 ?side2 A5.out).mono ?_
           (case side1 => exact cb HR122_2)
           (case side2 => exact HC122_2.out)
           rintro e w34 ⟨rfl, hb⟩
           refine ⟨_, rfl, ?_⟩
           replace BK123 := bb BK123 hb
           replace HB := ak (below_step (bl1 GE123) hb)
           (try clear hb)
           (try clear hb2)
           (try clear hk)
           (try clear hi)
           refine hK.out _ _ ⟨bc BK123 0, bc BK123 1, bc BK123 2⟩ (fun hHeld => ?_)
           clear hK K
           refine nm ?_
           refine pu 2 (some 14) (bitsA 20 7) ?_
           refine pu 3 (some 15) (bitsA 20 15) ?_
           refine pure_ (i := 4) (N := some 16) (v := undef) (a' := ?_) (bitsA 20 31) rfl rfl (any_of HT_.out (by kernel_rfl)) (fun _ _ _ h => h) (Or.inr ⟨by rfl, rfl⟩) ?_ ?_; rotate_left; (· (simp only [Act.put, List.setIfInBounds_toArray, List.set_cons_zero, List.set_cons_succ, i64_w, i32_w]; rfl))
           refine pure_ (i := 5) (N := some 17) (v := undef) (a' := ?_) (bitsA 20 63) rfl rfl (any_of HT_.out (by kernel_rfl)) (fun _ _ _ h => h) (Or.inr ⟨by rfl, rfl⟩) ?_ ?_; rotate_left; (· (simp only [Act.put, List.setIfInBounds_toArray, List.set_cons_zero, List.set_cons_succ, i64_w, i32_w]; rfl))
           refine pure_ (i := 6) (N := some 18) (v := undef) (a' := ?_) (bitsA 20 127) rfl rfl (any_of HT_.out (by kernel_rfl)) (fun _ _ _ h => h) (Or.inr ⟨by rfl, rfl⟩) ?_ ?_; rotate_left; (· (simp only [Act.put, List.setIfInBounds_toArray, List.set_cons_zero, List.set_cons_succ, i64_w, i32_w]; rfl))
           refine pure_ (i := 7) (N := some 19) (v := undef) (a' := ?_) (bitsA 20 255) rfl rfl (any_of HT_.out (by kernel_rfl)) (fun _ _ _ h => h) (Or.inr ⟨by rfl, rfl⟩) ?_ ?_; rotate_left; (· (simp only [Act.put, List.setIfInBounds_toArray, List.set_cons_zero, List.set_cons_succ, i64_w, i32_w]; rfl))
           refine pure_ (i := 8) (N := some 20) (v := undef) (a' := ?_) (bitsA 20 511) rfl rfl (any_of HT_.out (by kernel_rfl)) (fun _ _ _ h => h) (Or.inr ⟨by rfl, rfl⟩) ?_ ?_; rotate_left; (· (simp only [Act.put, List.setIfInBounds_toArray, List.set_cons_zero, List.set_cons_succ, i64_w, i32_w]; rfl))
           refine pure_ (i := 9) (N := some 21) (v := undef) (a' := ?_) (bitsA 20 1023) rfl rfl (any_of HT_.out (by kernel_rfl)) (fun _ _ _ h => h) (Or.inr ⟨by rfl, rfl⟩) ?_ ?_; rotate_left; (· (simp only [Act.put, List.setIfInBounds_toArray, List.set_cons_zero, List.set_cons_succ, i64_w, i32_w]; rfl))
           refine pure_ (i := 10) (N := some 22) (v := undef) (a' := ?_) (bitsA 20 2047) rfl rfl (any_of HT_.out (by kernel_rfl)) (fun _ _ _ h => h) (Or.inr ⟨by rfl, rfl⟩) ?_ ?_; rotate_left; (· (simp only [Act.put, List.setIfInBounds_toArray, List.set_cons_zero, List.set_cons_succ, i64_w, i32_w]; rfl))
           refine pure_ (i := 11) (N := some 23) (v := undef) (a' := ?_) (bitsA 20 4095) rfl rfl (any_of HT_.out (by kernel_rfl)) (fun _ _ _ h => h) (Or.inr ⟨by rfl, rfl⟩) ?_ ?_; rotate_left; (· (simp only [Act.put, List.setIfInBounds_toArray, List.set_cons_zero, List.set_cons_succ, i64_w, i32_w]; rfl))
           refine pure_ (i := 12) (N := some 24) (v := undef) (a' := ?_) (bitsA 20 8191) rfl rfl (any_of HT_.out (by kernel_rfl)) (fun _ _ _ h => h) (Or.inr ⟨by rfl, rfl⟩) ?_ ?_; rotate_left; (· (simp only [Act.put, List.setIfInBounds_toArray, List.set_cons_zero, List.set_cons_succ, i64_w, i32_w]; rfl))
           refine pure_ (i := 13) (N := some 25) (v := undef) (a' := ?_) (bitsA 20 16383) rfl rfl (any_of HT_.out (by kernel_rfl)) (fun _ _ _ h => h) (Or.inr ⟨by rfl, rfl⟩) ?_ ?_; rotate_left; (· (simp only [Act.put, List.setIfInBounds_toArray, List.set_cons_zero, List.set_cons_succ, i64_w, i32_w]; rfl))
           refine pure_ (i := 14) (N := some 26) (v := undef) (a' := ?_) (bitsA 20 32767) rfl rfl (any_of HT_.out (by kernel_rfl)) (fun _ _ _ h => h) (Or.inr ⟨by rfl, rfl⟩) ?_ ?_; rotate_left; (· (simp only [Act.put, List.setIfInBounds_toArray, List.set_cons_zero, List.set_cons_succ, i64_w, i32_w]; rfl))
           refine pure_ (i := 15) (N := some 27) (v := undef) (a' := ?_) (bitsA 20 65535) rfl rfl (any_of HT_.out (by kernel_rfl)) (fun _ _ _ h => h) (Or.inr ⟨by rfl, rfl⟩) ?_ ?_; rotate_left; (· (simp only [Act.put, List.setIfInBounds_toArray, List.set_cons_zero, List.set_cons_succ, i64_w, i32_w]; rfl))
           refine pure_ (i := 16) (N := some 28) (v := undef) (a' := ?_) (bitsA 20 131071) rfl rfl (any_of HT_.out (by kernel_rfl)) (fun _ _ _ h => h) (Or.inr ⟨by rfl, rfl⟩) ?_ ?_; rotate_left; (· (simp only [Act.put, List.setIfInBounds_toArray, List.set_cons_zero, List.set_cons_succ, i64_w, i32_w]; rfl))
           refine pure_ (i := 17) (N := some 29) (v := undef) (a' := ?_) (bitsA 20 262143) rfl rfl (any_of HT_.out (by kernel_rfl)) (fun _ _ _ h => h) (Or.inr ⟨by rfl, rfl⟩) ?_ ?_; rotate_left; (· (simp only [Act.put, List.setIfInBounds_toArray, List.set_cons_zero, List.set_cons_succ, i64_w, i32_w]; rfl))
           refine pure_ (i := 18) (N := some 30) (v := undef) (a' := ?_) (bitsA 20 524287) rfl rfl (any_of HT_.out (by kernel_rfl)) (fun _ _ _ h => h) (Or.inr ⟨by rfl, rfl⟩) ?_ ?_; rotate_left; (· (simp only [Act.put, List.setIfInBounds_toArray, List.set_cons_zero, List.set_cons_succ, i64_w, i32_w]; rfl))
           refine pu 19 (some 31) (bitsA 20 1048575) ?_
           refine done_ (done_of HT_.out (by kernel_rfl)) ?_
           try go_wp2
           go_ret
           exact ⟨ew, bl1 GE123⟩
       · rw [if_neg c4] at H
         exact absurd H (by simp)
     · rw [if_neg c3] at H
       exact absurd H (by simp)
   · rw [if_neg c2] at H
     have c2b0 : decide (x7_1 < (l0.length : Int)) = false := decide_eq_false c2
     clear c2
     obtain rfl := Option.some.inj H
     go_wp2
     go_ret
     exact ⟨ew, bl⟩

end Go.Proofs.Ytplekidnlofioaa.Q
namespace Go.Proofs.Ytplekidnlofioaa.Q
open Go.RowKit Go.Proofs.YtplekidnlofioaaW.PrintWords Go.Proofs.YtplekidnlofioaaW.PrintLast
def ptsFrom : Option Int → List S37 → Bool
  | _, [] => true
  | prev, p :: r => inB p.f0 0 1000000000 && inB p.f1 0 1000000000 && (match prev with | none => true | some a => decide (a < p.f0)) && ptsFrom (some p.f0) r
def serOk (s : S81) : Bool := nameOk s.f0 && nameOk s.f1 && inB (s.f2.length : Int) 1 12 && ptsFrom none s.f2
def stFrom : Option S81 → List S81 → Bool
  | _, [] => true
  | prev, s :: r => serOk s && (match prev with | none => true | some q => befB q.f0 q.f1 s.f0 s.f1) && stFrom (some s) r
def storeOk (l : List S81) : Bool := decide ((l.length : Int) ≤ 24) && stFrom none l
def fitS (s : S81) : Prop := s.f0.size < 4611686018427387904 ∧ s.f1.size < 4611686018427387904 ∧ s.f2.length < 4611686018427387904
theorem isTick_v (x : Int) : impl_isTick.f x = some (inB x 0 1000000000) := by simp [impl_isTick.f, in_v]
theorem isSize_v (x : Int) : impl_isSize.f x = some (inB x 0 1000000000) := by simp [impl_isSize.f, in_v]
theorem l02Tick_v (x : Int) : spec_l02Tick.f x = some (inB x 0 1000000000) := by simp [spec_l02Tick.f, l01In_v]
theorem l01Amt_v (x : Int) : spec_l01Amt.f x = some (inB x 0 1000000000) := by simp [spec_l01Amt.f, l01In_v]
theorem rdP_mid (pre suf : List S37) (p : S37) : rd_T37 (pre ++ p :: suf) (pre.length : Int) = p := by simp [rd_T37]
theorem rdS_mid (pre suf : List S81) (p : S81) : rd_T81 (pre ++ p :: suf) (pre.length : Int) = p := by simp [rd_T81]
theorem wrap_pred (n : Nat) (h : n < 4611686018427387904) : wrap64 (((n + 1 : Nat) : Int) - 1) = (n : Int) := by unfold wrap64; omega
theorem no_ft : ¬ (false = true) := by decide
theorem wrap_small (x : Int) (h : -4611686018427387904 ≤ x) (h2 : x ≤ 4611686018427387904) : wrap64 x = x := by unfold wrap64; omega
theorem impl_Series_ok_l0_ev (a b : ByteArray) (ha : a.size < 4611686018427387904) (hb : b.size < 4611686018427387904) (ps : List S37) (hp : ps.length < 4611686018427387904) : ∀ suf pre, ps = pre ++ suf → Ev (fun k => impl_Series_ok.l0 k ps (ps.length : Int) (pre.length : Int) a b ps) (ptsFrom (pre.getLast?.map (·.f0)) suf && (nameOk a && nameOk b && inB (ps.length : Int) 1 12)) := by
  intro suf
  induction suf with
  | nil =>
    intro pre h
    refine Ev.step (fun k => by rw [impl_Series_ok.l0]) ?_
    have hlt : ¬ ((pre.length : Int) < (ps.length : Int)) := by rw [h]; simp
    simp only [if_neg hlt, ptsFrom, Bool.true_and]
    refine Ev.bind (impl_NameOk_ev a ha) ?_
    cases nameOk a
    · simp only [if_neg no_ft, Bool.false_and]; exact Ev.now _
    · simp only [if_true, Bool.true_and]
      refine Ev.bind (impl_NameOk_ev b hb) ?_
      cases nameOk b
      · simp only [if_neg no_ft, Bool.false_and]; exact Ev.now _
      · simp only [if_true, Bool.true_and, in_v, Option.bind_some]; exact Ev.now _
  | cons p suf ih =>
    intro pre h
    refine Ev.step (fun k => by rw [impl_Series_ok.l0]) ?_
    have hlt : ((pre.length : Int) < (ps.length : Int)) := by rw [h]; exact lt_mid _ _ _
    have hl : pre.length < ps.length := by omega
    have hw := wrapn pre.length (by omega)
    have hr := ih (pre ++ [p]) (by rw [h]; simp)
    rw [List.length_append, List.length_singleton, List.getLast?_concat, Option.map_some] at hr
    have hrd : rd_T37 ps (pre.length : Int) = p := by rw [h]; exact rdP_mid _ _ _
    simp only [if_pos hlt, if_pos (nn _), hrd, hw, isTick_v, isSize_v, Option.bind_some, ptsFrom]
    cases inB p.f0 0 1000000000
    · simp only [if_neg no_ft, Bool.false_and]; exact Ev.now _
    · simp only [if_true, Bool.true_and]
      cases inB p.f1 0 1000000000
      · simp only [if_neg no_ft, Bool.false_and]; exact Ev.now _
      · simp only [if_true, Bool.true_and]
        rcases List.eq_nil_or_concat pre with rfl | ⟨pre', q, rfl⟩
        · simp only [List.length_nil, List.getLast?_nil, Option.map_none, Bool.true_and]
          simp only [show ¬ (((0 : Nat) : Int) > 0) from by decide, if_false]
          exact hr
        · rw [List.concat_eq_append] at *
          simp only [List.length_append, List.length_singleton, List.getLast?_concat, Option.map_some] at *
          have hwp := wrap_pred pre'.length (by omega)
          have hq : rd_T37 ps (pre'.length : Int) = q := by rw [h]; rw [List.append_assoc]; exact rdP_mid _ _ _
          have h1 : (((pre'.length + 1 : Nat)) : Int) > 0 := by omega
          have h2 : ((pre'.length : Nat) : Int) < (ps.length : Int) := by omega
          simp only [h1, if_true, hwp, if_pos (nn _), h2, hq]
          by_cases c : q.f0 ≥ p.f0
          · simp only [c, if_true, show decide (q.f0 < p.f0) = false from by simp; omega, Bool.false_and]; exact Ev.now _
          · simp only [c, if_false, show decide (q.f0 < p.f0) = true from by simp; omega, Bool.true_and]; exact hr
theorem impl_Series_ok_ev (s : S81) (h : fitS s) : Ev (fun k => impl_Series_ok.f k s.f0 s.f1 s.f2) (serOk s) := by
  unfold impl_Series_ok.f serOk
  have := impl_Series_ok_l0_ev s.f0 s.f1 h.1 h.2.1 s.f2 h.2.2 s.f2 [] rfl
  rw [Bool.and_comm]
  exact this
theorem impl_StoreOk_l0_ev (xs : List S81) (hx : xs.length < 4611686018427387904) (hf : ∀ s ∈ xs, fitS s) : ∀ suf pre, xs = pre ++ suf → Ev (fun k => impl_StoreOk.l0 k xs xs (xs.length : Int) (pre.length : Int)) (stFrom pre.getLast? suf && decide ((xs.length : Int) ≤ 24)) := by
  intro suf
  induction suf with
  | nil =>
    intro pre h
    refine Ev.step (fun k => by rw [impl_StoreOk.l0]) ?_
    have hlt : ¬ ((pre.length : Int) < (xs.length : Int)) := by rw [h]; simp
    simp only [if_neg hlt, stFrom, Bool.true_and]
    exact Ev.now _
  | cons s suf ih =>
    intro pre h
    refine Ev.step (fun k => by rw [impl_StoreOk.l0]) ?_
    have hlt : ((pre.length : Int) < (xs.length : Int)) := by rw [h]; exact lt_mid _ _ _
    have hl : pre.length < xs.length := by omega
    have hw := wrapn pre.length (by omega)
    have hr := ih (pre ++ [s]) (by rw [h]; simp)
    rw [List.length_append, List.length_singleton, List.getLast?_concat] at hr
    have hrd : rd_T81 xs (pre.length : Int) = s := by rw [h]; exact rdS_mid _ _ _
    simp only [if_pos hlt, if_pos (nn _), hrd, hw, stFrom]
    refine Ev.bind (impl_Series_ok_ev s (hf s (by rw [h]; simp))) ?_
    cases serOk s
    · simp only [if_neg no_ft, Bool.false_and]; exact Ev.now _
    · simp only [if_true, Bool.true_and]
      rcases List.eq_nil_or_concat pre with rfl | ⟨pre', q, rfl⟩
      · simp only [List.length_nil, List.getLast?_nil, Bool.true_and]
        simp only [show ¬ (((0 : Nat) : Int) > 0) from by decide, if_false]
        exact hr
      · rw [List.concat_eq_append] at *
        simp only [List.length_append, List.length_singleton, List.getLast?_concat] at *
        have hwp := wrap_pred pre'.length (by omega)
        have hq : rd_T81 xs (pre'.length : Int) = q := by rw [h]; rw [List.append_assoc]; exact rdS_mid _ _ _
        have h1 : (((pre'.length + 1 : Nat)) : Int) > 0 := by omega
        have h2 : ((pre'.length : Nat) : Int) < (xs.length : Int) := by omega
        simp only [h1, if_true, hwp, if_pos (nn _), h2, hq]
        refine Ev.bind (impl_compare_ev q.f0 q.f1 q.f2 s.f0 s.f1) ?_
        have hc := cmpS_neg q.f0 q.f1 s.f0 s.f1
        cases hb : befB q.f0 q.f1 s.f0 s.f1
        · rw [hb] at hc
          simp only [of_decide_eq_true hc, if_true, Bool.false_and]; exact Ev.now _
        · rw [hb] at hc
          simp only [of_decide_eq_false hc, if_false, Bool.true_and]; exact hr
theorem impl_StoreOk_ev (xs : List S81) (hx : xs.length < 4611686018427387904) (hf : ∀ s ∈ xs, fitS s) : Ev (fun k => impl_StoreOk.f k xs) (storeOk xs) := by
  unfold impl_StoreOk.f storeOk
  have := impl_StoreOk_l0_ev xs hx hf xs [] rfl
  rw [Bool.and_comm]
  exact this
theorem spec_StoreOk_l1_ev (xs : List S81) (i : Int) (a b : ByteArray) (ps : List S37) (hp : ps.length < 4611686018427387904) (R : Bool) (hR : Ev (fun k => spec_StoreOk.l0 k xs (wrap64 (i + 1))) R) : ∀ suf pre, ps = pre ++ suf → Ev (fun k => spec_StoreOk.l1 k xs i (pre.length : Int) a b ps) (ptsFrom (pre.getLast?.map (·.f0)) suf && R) := by
  intro suf
  induction suf with
  | nil =>
    intro pre h
    refine Ev.step (fun k => by rw [spec_StoreOk.l1]) ?_
    have hlt : ¬ ((pre.length : Int) < (ps.length : Int)) := by rw [h]; simp
    simp only [if_neg hlt, ptsFrom, Bool.true_and]
    exact hR
  | cons p suf ih =>
    intro pre h
    refine Ev.step (fun k => by rw [spec_StoreOk.l1]) ?_
    have hlt : ((pre.length : Int) < (ps.length : Int)) := by rw [h]; exact lt_mid _ _ _
    have hl : pre.length < ps.length := by omega
    have hw := wrapn pre.length (by omega)
    have hr := ih (pre ++ [p]) (by rw [h]; simp)
    rw [List.length_append, List.length_singleton, List.getLast?_concat, Option.map_some] at hr
    have hrd : rd_T37 ps (pre.length : Int) = p := by rw [h]; exact rdP_mid _ _ _
    simp only [if_pos hlt, if_pos (nn _), hrd, hw, l02Tick_v, l01Amt_v, Option.bind_some, ptsFrom]
    cases inB p.f0 0 1000000000
    · simp only [if_neg no_ft, Bool.false_and]; exact Ev.now _
    · simp only [if_true, Bool.true_and]
      cases inB p.f1 0 1000000000
      · simp only [if_neg no_ft, Bool.false_and]; exact Ev.now _
      · simp only [if_true, Bool.true_and]
        rcases List.eq_nil_or_concat pre with rfl | ⟨pre', q, rfl⟩
        · simp only [List.length_nil, List.getLast?_nil, Option.map_none, Bool.true_and]
          simp only [show ¬ (((0 : Nat) : Int) > 0) from by decide, if_false]
          exact hr
        · rw [List.concat_eq_append] at *
          simp only [List.length_append, List.length_singleton, List.getLast?_concat, Option.map_some] at *
          have hwp := wrap_pred pre'.length (by omega)
          have hq : rd_T37 ps (pre'.length : Int) = q := by rw [h]; rw [List.append_assoc]; exact rdP_mid _ _ _
          have h1 : (((pre'.length + 1 : Nat)) : Int) > 0 := by omega
          have h2 : ((pre'.length : Nat) : Int) < (ps.length : Int) := by omega
          simp only [h1, if_true, hwp, if_pos (nn _), h2, hq]
          by_cases c : q.f0 ≥ p.f0
          · simp only [c, if_true, show decide (q.f0 < p.f0) = false from by simp; omega, Bool.false_and]; exact Ev.now _
          · simp only [c, if_false, show decide (q.f0 < p.f0) = true from by simp; omega, Bool.true_and]; exact hr
theorem spec_j1_true (xs : List S81) (i : Int) (a b : ByteArray) (ps : List S37) : Ev (fun k => spec_StoreOk.j1 k xs i true a b ps) false := by
  refine Ev.step (fun k => by rw [spec_StoreOk.j1]) ?_
  simp only [if_true]
  exact Ev.now _
theorem spec_StoreOk_l0_ev (xs : List S81) (hx : xs.length < 4611686018427387904) (hf : ∀ s ∈ xs, fitS s) : ∀ suf pre, xs = pre ++ suf → Ev (fun k => spec_StoreOk.l0 k xs (pre.length : Int)) (stFrom pre.getLast? suf) := by
  intro suf
  induction suf with
  | nil =>
    intro pre h
    refine Ev.step (fun k => by rw [spec_StoreOk.l0]) ?_
    have hlt : ¬ ((pre.length : Int) < (xs.length : Int)) := by rw [h]; simp
    simp only [if_neg hlt, stFrom]
    exact Ev.now _
  | cons s suf ih =>
    intro pre h
    refine Ev.step (fun k => by rw [spec_StoreOk.l0]) ?_
    have hlt : ((pre.length : Int) < (xs.length : Int)) := by rw [h]; exact lt_mid _ _ _
    have hl : pre.length < xs.length := by omega
    have hw := wrapn pre.length (by omega)
    have hr := ih (pre ++ [s]) (by rw [h]; simp)
    rw [List.length_append, List.length_singleton, List.getLast?_concat, ← hw] at hr
    have hrd : rd_T81 xs (pre.length : Int) = s := by rw [h]; exact rdS_mid _ _ _
    have hfs := hf s (by rw [h]; simp)
    have hl1 := spec_StoreOk_l1_ev xs (pre.length : Int) s.f0 s.f1 s.f2 hfs.2.2 _ hr s.f2 [] rfl
    have hj1 : Ev (fun k => spec_StoreOk.j1 k xs (pre.length : Int) false s.f0 s.f1 s.f2) (ptsFrom none s.f2 && stFrom (some s) suf) := by
      refine Ev.step (fun k => by rw [spec_StoreOk.j1]) ?_
      simp only [if_neg no_ft]
      exact hl1
    simp only [if_pos hlt, if_pos (nn _), hrd, l01In_v, Option.bind_some, stFrom, serOk]
    refine Ev.bind (spec_NameOk_ev s.f0) ?_
    cases nameOk s.f0
    · simp only [if_neg no_ft, Bool.false_and]; exact spec_j1_true _ _ _ _ _
    · simp only [if_true, Bool.true_and]
      refine Ev.bind (spec_NameOk_ev s.f1) ?_
      cases nameOk s.f1
      · simp only [if_neg no_ft, Bool.false_and]; exact spec_j1_true _ _ _ _ _
      · simp only [if_true, Bool.true_and]
        cases inB (s.f2.length : Int) 1 12
        · simp only [if_neg no_ft, Bool.false_and]; exact spec_j1_true _ _ _ _ _
        · simp only [if_true, Bool.true_and]
          rcases List.eq_nil_or_concat pre with rfl | ⟨pre', q, rfl⟩
          · simp only [List.length_nil, List.getLast?_nil, Bool.and_true]
            simp only [show ¬ (((0 : Nat) : Int) > 0) from by decide, if_false]
            exact hj1
          · rw [List.concat_eq_append] at *
            simp only [List.length_append, List.length_singleton, List.getLast?_concat] at *
            have hwp := wrap_pred pre'.length (by omega)
            have hq : rd_T81 xs (pre'.length : Int) = q := by rw [h]; rw [List.append_assoc]; exact rdS_mid _ _ _
            have h1 : (((pre'.length + 1 : Nat)) : Int) > 0 := by omega
            have h2 : ((pre'.length : Nat) : Int) < (xs.length : Int) := by omega
            have hfq := hf q (by rw [h]; simp)
            simp only [h1, if_true, hwp, if_pos (nn _), h2, hq]
            refine Ev.bind (spec_l03Before_ev q.f0 q.f1 s.f0 s.f1 hfq.1 hfq.2.1) ?_
            cases befB q.f0 q.f1 s.f0 s.f1
            · simp only [Bool.not_false, Bool.and_false, Bool.false_and]; exact spec_j1_true _ _ _ _ _
            · simp only [Bool.not_true, Bool.and_true]; exact hj1
theorem spec_StoreOk_ev (xs : List S81) (hx : xs.length < 4611686018427387904) (hf : ∀ s ∈ xs, fitS s) : Ev (fun k => spec_StoreOk.f k xs) (storeOk xs) := by
  unfold spec_StoreOk.f storeOk
  by_cases c : (xs.length : Int) > 24
  · simp only [c, if_true, show decide ((xs.length : Int) ≤ 24) = false from by simp; omega, Bool.false_and]; exact Ev.now _
  · simp only [c, if_false, show decide ((xs.length : Int) ≤ 24) = true from by simp; omega, Bool.true_and]
    exact spec_StoreOk_l0_ev xs hx hf xs [] rfl
end Go.Proofs.Ytplekidnlofioaa.Q
namespace Go.Proofs.Ytplekidnlofioaa.Q
open Go.RowKit Go.Proofs.YtplekidnlofioaaW.PrintWords Go.Proofs.YtplekidnlofioaaW.PrintLast Go.Proofs.YtplekidnlofioaaW.PrintMore
attribute [local go_sem] max2_int min2_int max_two min_two max_three min_three max_four min_four   -- for this text's walks alone
set_option linter.unusedVariables false
set_option linter.unusedSimpArgs false

/-! ### laws_szPointS: function 134 -/
def laws_szPointS.f (l0 : List (S219)) (a1 : Int) : Option (Int) := if (wrap64 (a1 - (l0.length : Int))) < 0 then (some (-1)) else (some (wrap64 (a1 - (l0.length : Int))))
set_option maxHeartbeats 8000000 in
set_option maxRecDepth 100000 in
theorem laws_szPointS.calls (A0 : Option Addr) (c0 : Nat) (l0 : List (S219)) (a1 : Int) (r : Int) (w : World) (hr0 : Kd.C k219 w A0 l0.length l0) (hc0 : l0.length ≤ c0) (h : laws_szPointS.f l0 a1 = some r) :
 Calls Try.prog 134 #[.slice A0 l0.length c0, .int .i64 a1] w fun e w' => e = .returned (.int .i64 r) ∧ Drawn0 w w' := by
 have HR0 := Aside0.mk hr0
 have HC0 := Aside0.mk hc0
 clear hr0 hc0
 have H : (if (wrap64 (a1 - (l0.length : Int))) < 0 then (some (-1)) else (some (wrap64 (a1 - (l0.length : Int))))) = some r := h
 clear h
 by_cases c3 : (wrap64 (a1 - (l0.length : Int))) < 0
 · rw [if_pos c3] at H
   have c3b0 : decide ((wrap64 (a1 - (l0.length : Int))) < 0) = true := decide_eq_true c3
   clear c3
   obtain rfl := Option.some.inj H
   go_enter Try.func134, Try.ntmps134
   go_wp2
   go_ret
   exact ⟨es, dr0⟩
 · rw [if_neg c3] at H
   have c3b0 : decide ((wrap64 (a1 - (l0.length : Int))) < 0) = false := decide_eq_false c3
   clear c3
   obtain rfl := Option.some.inj H
   go_enter Try.func134, Try.ntmps134
   go_wp2
   go_ret
   exact ⟨es, dr0⟩

end Go.Proofs.Ytplekidnlofioaa.Q
namespace Go.Proofs.Ytplekidnlofioaa.Q
open Go.RowKit Go.Proofs.YtplekidnlofioaaW.PrintWords Go.Proofs.YtplekidnlofioaaW.PrintLast Go.Proofs.YtplekidnlofioaaW.PrintMore
attribute [local go_sem] max2_int min2_int max_two min_two max_three min_three max_four min_four   -- for this text's walks alone
set_option linter.unusedVariables false
set_option linter.unusedSimpArgs false

/-! ### laws_szSeries: function 78 -/
def laws_szSeries.f (a0_0 : ByteArray) (a0_1 : ByteArray) (l0_2 : List (S219)) (a1 : Int) : Option (Int) := if (wrap64 (a1 - (a0_0.size : Int))) < 0 then (some (-1)) else (if (wrap64 ((wrap64 (a1 - (a0_0.size : Int))) - (a0_1.size : Int))) < 0 then (some (-1)) else ((laws_szPointS.f l0_2 (wrap64 ((wrap64 (a1 - (a0_0.size : Int))) - (a0_1.size : Int)))).bind fun t219 => (if t219 < 0 then (some (-1)) else (some t219))))
set_option maxHeartbeats 8000000 in
set_option maxRecDepth 100000 in
theorem laws_szSeries.calls (a0_0 : ByteArray) (a0_1 : ByteArray) (A0_2 : Option Addr) (c0_2 : Nat) (l0_2 : List (S219)) (a1 : Int) (r : Int) (w : World) (hr0_2 : Kd.C k219 w A0_2 l0_2.length l0_2) (hc0_2 : l0_2.length ≤ c0_2) (h : laws_szSeries.f a0_0 a0_1 l0_2 a1 = some r) :
 Calls Try.prog 78 #[.agg #[.string a0_0, .string a0_1, .slice A0_2 l0_2.length c0_2], .int .i64 a1] w fun e w' => e = .returned (.int .i64 r) ∧ Below w.heap.size w w' := by
 have hu137 := Try.underlying137
 have HR0_2 := Aside0.mk hr0_2
 have HC0_2 := Aside0.mk hc0_2
 clear hr0_2 hc0_2
 have HB := Aside0.mk (Below.refl w.heap.size w)
 have H : (if (wrap64 (a1 - (a0_0.size : Int))) < 0 then (some (-1)) else (if (wrap64 ((wrap64 (a1 - (a0_0.size : Int))) - (a0_1.size : Int))) < 0 then (some (-1)) else ((laws_szPointS.f l0_2 (wrap64 ((wrap64 (a1 - (a0_0.size : Int))) - (a0_1.size : Int)))).bind fun t219 => (if t219 < 0 then (some (-1)) else (some t219))))) = some r := h
 clear h
 by_cases c3 : (wrap64 (a1 - (a0_0.size : Int))) < 0
 · rw [if_pos c3] at H
   have c3b0 : decide ((wrap64 (a1 - (a0_0.size : Int))) < 0) = true := decide_eq_true c3
   clear c3
   obtain rfl := Option.some.inj H
   go_enter Try.func78, Try.ntmps78
   go_wp2_with (first | ((with_reducible refine gate_dst (N := 2) rfl ?_); refine bx 2 #[.string a0_0, .string a0_1, .slice A0_2 l0_2.length c0_2] 137 ?_; intro gb218 hg w4 hbox hb; have BK218 := ak hbox; have GW218 := gs hg bl; have GE218 := gs hg bl; replace HB := ak (below_step bl hb); clear hb hbox hg; obtain ⟨hcz5_0, hcz5_1, hcz5_2, hfz5_0, hfz5_1, hfz5_2⟩ := cz3 BK218))
   go_ret
   exact ⟨ew, bl1 GE218⟩
 · rw [if_neg c3] at H
   have c3b0 : decide ((wrap64 (a1 - (a0_0.size : Int))) < 0) = false := decide_eq_false c3
   clear c3
   by_cases c6 : (wrap64 ((wrap64 (a1 - (a0_0.size : Int))) - (a0_1.size : Int))) < 0
   · rw [if_pos c6] at H
     have c6b0 : decide ((wrap64 ((wrap64 (a1 - (a0_0.size : Int))) - (a0_1.size : Int))) < 0) = true := decide_eq_true c6
     clear c6
     obtain rfl := Option.some.inj H
     go_enter Try.func78, Try.ntmps78
     go_wp2_with (first | ((with_reducible refine gate_dst (N := 2) rfl ?_); refine bx 2 #[.string a0_0, .string a0_1, .slice A0_2 l0_2.length c0_2] 137 ?_; intro gb218 hg w7 hbox hb; have BK218 := ak hbox; have GW218 := gs hg bl; have GE218 := gs hg bl; replace HB := ak (below_step bl hb); clear hb hbox hg; obtain ⟨hcz8_0, hcz8_1, hcz8_2, hfz8_0, hfz8_1, hfz8_2⟩ := cz3 BK218))
     go_ret
     exact ⟨ew, bl1 GE218⟩
   · rw [if_neg c6] at H
     have c6b0 : decide ((wrap64 ((wrap64 (a1 - (a0_0.size : Int))) - (a0_1.size : Int))) < 0) = false := decide_eq_false c6
     clear c6
     obtain ⟨t219, A90, H⟩ := bo H
     have A9 := Aside0.mk A90
     clear A90
     by_cases c10 : t219 < 0
     · rw [if_pos c10] at H
       have c10b0 : decide (t219 < 0) = true := decide_eq_true c10
       clear c10
       obtain rfl := Option.some.inj H
       go_enter Try.func78, Try.ntmps78
       go_wp2_with (first | ((with_reducible refine gate_dst (N := 2) rfl ?_); refine bx 2 #[.string a0_0, .string a0_1, .slice A0_2 l0_2.length c0_2] 137 ?_; intro gb218 hg w11 hbox hb; have BK218 := ak hbox; have GW218 := gs hg bl; have GE218 := gs hg bl; replace HB := ak (below_step bl hb); clear hb hbox hg; obtain ⟨hcz12_0, hcz12_1, hcz12_2, hfz12_0, hfz12_1, hfz12_2⟩ := cz3 BK218) | ((with_reducible refine gate_callee (f := 134) rfl ?_); refine gl (some 22) Try.func134 #[.slice A0_2 l0_2.length c0_2, .int .i64 (wrap64 ((wrap64 (a1 - (a0_0.size : Int))) - (a0_1.size : Int)))] ?_; (with_reducible refine (laws_szPointS.calls _ _ l0_2 (wrap64 ((wrap64 (a1 - (a0_0.size : Int))) - (a0_1.size : Int))) t219 _ ?side1 ?side2 A9.out).mono ?_); (case side1 => exact cb HR0_2); (case side2 => exact HC0_2.out); rintro e w' ⟨rfl, ⟨nd, rfl⟩⟩; refine ⟨_, rfl, ?_⟩))
       go_ret
       exact ⟨ew, bl1 GE218⟩
     · rw [if_neg c10] at H
       have c10b0 : decide (t219 < 0) = false := decide_eq_false c10
       clear c10
       obtain rfl := Option.some.inj H
       go_enter Try.func78, Try.ntmps78
       go_wp2_with (first | ((with_reducible refine gate_dst (N := 2) rfl ?_); refine bx 2 #[.string a0_0, .string a0_1, .slice A0_2 l0_2.length c0_2] 137 ?_; intro gb218 hg w13 hbox hb; have BK218 := ak hbox; have GW218 := gs hg bl; have GE218 := gs hg bl; replace HB := ak (below_step bl hb); clear hb hbox hg; obtain ⟨hcz14_0, hcz14_1, hcz14_2, hfz14_0, hfz14_1, hfz14_2⟩ := cz3 BK218) | ((with_reducible refine gate_callee (f := 134) rfl ?_); refine gl (some 22) Try.func134 #[.slice A0_2 l0_2.length c0_2, .int .i64 (wrap64 ((wrap64 (a1 - (a0_0.size : Int))) - (a0_1.size : Int)))] ?_; (with_reducible refine (laws_szPointS.calls _ _ l0_2 (wrap64 ((wrap64 (a1 - (a0_0.size : Int))) - (a0_1.size : Int))) t219 _ ?side1 ?side2 A9.out).mono ?_); (case side1 => exact cb HR0_2); (case side2 => exact HC0_2.out); rintro e w' ⟨rfl, ⟨nd, rfl⟩⟩; refine ⟨_, rfl, ?_⟩))
       go_ret
       exact ⟨ew, bl1 GE218⟩

end Go.Proofs.Ytplekidnlofioaa.Q
namespace Go.Proofs.Ytplekidnlofioaa.Q
open Go.RowKit Go.Proofs.YtplekidnlofioaaW.PrintWords Go.Proofs.YtplekidnlofioaaW.PrintLast Go.Proofs.YtplekidnlofioaaW.PrintMore
attribute [local go_sem] max2_int min2_int max_two min_two max_three min_three max_four min_four   -- for this text's walks alone
set_option linter.unusedVariables false
set_option linter.unusedSimpArgs false

/-! ### laws_szSeriesS: function 21 -/
def laws_szSeriesS.l0 : Nat → List (S137) → Int → Int → Option (Int)
 | 0, _, _, _ => none
 | k + 1, x0, x1, x5 => if x5 < (x0.length : Int) then (if 0 ≤ x5 then ((laws_szSeries.f ((rd_T137 x0 x5).f0) ((rd_T137 x0 x5).f1) ((rd_T137 x0 x5).f2) x1).bind fun t221 => (if t221 < 0 then (some (-1)) else (laws_szSeriesS.l0 k x0 t221 (wrap64 (x5 + 1))))) else (none)) else (some x1)
def laws_szSeriesS.f (k : Nat) (l0 : List (S137)) (a1 : Int) : Option (Int) := if (wrap64 (a1 - (l0.length : Int))) < 0 then (some (-1)) else (laws_szSeriesS.l0 k l0 (wrap64 (a1 - (l0.length : Int))) 0)
theorem laws_szSeriesS.mono_l : ∀ k, (∀ y0 y1 y2, LeO (laws_szSeriesS.l0 k y0 y1 y2) (laws_szSeriesS.l0 (k + 1) y0 y1 y2))
 | 0 => fun _ _ _ r h => by simp [laws_szSeriesS.l0] at h
 | k + 1 => by
  have ih0 := laws_szSeriesS.mono_l k
  · intro y0 y1 y2
    unfold laws_szSeriesS.l0
    repeat' first
    | (with_reducible exact ih0 _ _ _)
    | (with_reducible exact LeO.refl _)
    | (with_reducible exact LeO.none _)
    | (with_reducible refine LeO.ite ?_ ?_)
    | (with_reducible refine LeO.bind ?_ (fun _ => ?_))
    | exact ih0 _ _ _
    | exact LeO.none _
    | refine LeO.ite ?_ ?_
    | refine LeO.bind ?_ (fun _ => ?_)
theorem laws_szSeriesS.mono : ∀ a0 a1 k, LeO (laws_szSeriesS.f k a0 a1) (laws_szSeriesS.f (k + 1) a0 a1) := by
 intro a0 a1 k
 have ih0 := laws_szSeriesS.mono_l k
 unfold laws_szSeriesS.f
 repeat' first
  | (with_reducible exact ih0 _ _ _)
  | (with_reducible exact LeO.refl _)
  | (with_reducible exact LeO.none _)
  | (with_reducible refine LeO.ite ?_ ?_)
  | (with_reducible refine LeO.bind ?_ (fun _ => ?_))
  | exact ih0 _ _ _
  | exact LeO.none _
  | refine LeO.ite ?_ ?_
  | refine LeO.bind ?_ (fun _ => ?_)
set_option maxHeartbeats 8000000 in
set_option maxRecDepth 100000 in
theorem laws_szSeriesS.calls (k : Nat) (A0 : Option Addr) (c0 : Nat) (l0 : List (S137)) (a1 : Int) (r : Int) (w : World) (hr0 : Kd.C k137 w A0 l0.length l0) (hc0 : l0.length ≤ c0) (h : laws_szSeriesS.f k l0 a1 = some r) :
 Calls Try.prog 21 #[.slice A0 l0.length c0, .int .i64 a1] w fun e w' => e = .returned (.int .i64 r) ∧ Below w.heap.size w w' := by
 have hu137 := Try.underlying137
 have HR0 := Aside0.mk hr0
 have HC0 := Aside0.mk hc0
 clear hr0 hc0
 have HB := Aside0.mk (Below.refl w.heap.size w)
 have H : (if (wrap64 (a1 - (l0.length : Int))) < 0 then (some (-1)) else (laws_szSeriesS.l0 k l0 (wrap64 (a1 - (l0.length : Int))) 0)) = some r := h
 clear h
 by_cases c3 : (wrap64 (a1 - (l0.length : Int))) < 0
 · rw [if_pos c3] at H
   have c3b0 : decide ((wrap64 (a1 - (l0.length : Int))) < 0) = true := decide_eq_true c3
   clear c3
   obtain rfl := Option.some.inj H
   go_enter Try.func21, Try.ntmps21
   go_wp2
   go_ret
   exact ⟨ew, bl⟩
 · rw [if_neg c3] at H
   have c3b0 : decide ((wrap64 (a1 - (l0.length : Int))) < 0) = false := decide_eq_false c3
   clear c3
   have H' := Aside0.mk H
   clear H
   go_enter Try.func21, Try.ntmps21
   go_wp2
   go_loopg [1, 5] k (fun kq v1 v5 w' => ∃ (x1_1 : Int) (x5_1 : Int), v1 = .int .i64 x1_1 ∧ v5 = .int .i64 x5_1 ∧ Aside0 (laws_szSeriesS.l0 kq l0 x1_1 x5_1 = some r) ∧ Aside0 (kq ≤ k) ∧ Aside0 (Below w.heap.size w w'))
   case atStart => exact ⟨(wrap64 (a1 - (l0.length : Int))), (0), es, es, H', ⟨Nat.le_refl _⟩, ⟨bl⟩⟩
   case round =>
    clear H'
    try clear c2
    try clear p2
    try clear c3
    try clear c3b0
    obtain ⟨x1_1, x5_1, rfl, rfl, HA, HK1, HB⟩ := hrel
    cases gk with
    | zero => exact absurd HA.out (by simp [laws_szSeriesS.l0])
    | succ k1 =>
     have H := HA.out
     clear HA
     simp only [laws_szSeriesS.l0] at H
     by_cases c4 : x5_1 < (l0.length : Int)
     · rw [if_pos c4] at H
       have c4b0 : decide (x5_1 < (l0.length : Int)) = true := decide_eq_true c4
       clear c4
       by_cases c5 : 0 ≤ x5_1
       · rw [if_pos c5] at H
         have c5b0 : decide (0 ≤ x5_1) = true := decide_eq_true c5
         clear c5
         obtain ⟨t221, A60, H⟩ := bo H
         have A6 := Aside0.mk A60
         clear A60
         by_cases c7 : t221 < 0
         · rw [if_pos c7] at H
           have c7b0 : decide (t221 < 0) = true := decide_eq_true c7
           clear c7
           obtain rfl := Option.some.inj H
           have p220 : 0 ≤ (x5_1 : Int) := of_decide_eq_true am
           have q220 : x5_1 < (l0.length : Int) := of_decide_eq_true am
           obtain ⟨ad220, A220_2, c220_2, e220, hx220_0, hx220_1, hx220_2, hl220_2, hi220_2⟩ := at_T137 HR0.out x5_1 p220 q220
           cases e220
           replace hx220_0 := cw hx220_0
           replace hx220_1 := cw hx220_1
           replace hx220_2 := cw hx220_2
           have HR220_2 := Aside0.mk hi220_2
           have HC220_2 := Aside0.mk hl220_2
           clear hi220_2 hl220_2
           replace p220 := eq_true p220
           replace q220 := eq_true q220
           go_wp2_with (first | ((with_reducible refine gate_callee (f := 78) rfl ?_); refine gl (some 23) Try.func78 #[.agg #[.string ((rd_T137 l0 x5_1).f0), .string ((rd_T137 l0 x5_1).f1), .slice A220_2 ((rd_T137 l0 x5_1).f2).length c220_2], .int .i64 x1_1] ?_; (with_reducible refine (laws_szSeries.calls ((rd_T137 l0 x5_1).f0) ((rd_T137 l0 x5_1).f1) _ _ ((rd_T137 l0 x5_1).f2) x1_1 t221 _ ?side1 ?side2 A6.out).mono ?_); (case side1 => exact cb HR220_2); (case side2 => exact HC220_2.out); rintro e w8 ⟨rfl, hb⟩; refine ⟨_, rfl, ?_⟩; replace HB := ak (below_step bl hb); (try clear hb); (try clear hb2); (try clear hk); (try clear hi)))
           go_ret
           exact ⟨ew, bl⟩
         · rw [if_neg c7] at H
           have c7b0 : decide (t221 < 0) = false := decide_eq_false c7
           clear c7
           have H' := Aside0.mk H
           clear H
           have p220 : 0 ≤ (x5_1 : Int) := of_decide_eq_true am
           have q220 : x5_1 < (l0.length : Int) := of_decide_eq_true am
           obtain ⟨ad220, A220_2, c220_2, e220, hx220_0, hx220_1, hx220_2, hl220_2, hi220_2⟩ := at_T137 HR0.out x5_1 p220 q220
           cases e220
           replace hx220_0 := cw hx220_0
           replace hx220_1 := cw hx220_1
           replace hx220_2 := cw hx220_2
           have HR220_2 := Aside0.mk hi220_2
           have HC220_2 := Aside0.mk hl220_2
           clear hi220_2 hl220_2
           replace p220 := eq_true p220
           replace q220 := eq_true q220
           go_wp2_with (first | ((with_reducible refine gate_callee (f := 78) rfl ?_); refine gl (some 23) Try.func78 #[.agg #[.string ((rd_T137 l0 x5_1).f0), .string ((rd_T137 l0 x5_1).f1), .slice A220_2 ((rd_T137 l0 x5_1).f2).length c220_2], .int .i64 x1_1] ?_; (with_reducible refine (laws_szSeries.calls ((rd_T137 l0 x5_1).f0) ((rd_T137 l0 x5_1).f1) _ _ ((rd_T137 l0 x5_1).f2) x1_1 t221 _ ?side1 ?side2 A6.out).mono ?_); (case side1 => exact cb HR220_2); (case side2 => exact HC220_2.out); rintro e w9 ⟨rfl, hb⟩; refine ⟨_, rfl, ?_⟩; replace HB := ak (below_step bl hb); (try clear hb); (try clear hb2); (try clear hk); (try clear hi)))
           go_roundg k1
           case measure => have := HK1.out; omega
           case rel => exact ⟨(t221), (wrap64 (x5_1 + 1)), es, es, H', ⟨kp⟩, ⟨bl⟩⟩
       · rw [if_neg c5] at H
         exact absurd H (by simp)
     · rw [if_neg c4] at H
       have c4b0 : decide (x5_1 < (l0.length : Int)) = false := decide_eq_false c4
       clear c4
       obtain rfl := Option.some.inj H
       go_wp2
       go_ret
       exact ⟨ew, bl⟩

end Go.Proofs.Ytplekidnlofioaa.Q
namespace Go.Proofs.Ytplekidnlofioaa.Q
open Go.RowKit Go.Proofs.YtplekidnlofioaaW.PrintWords Go.Proofs.YtplekidnlofioaaW.PrintLast Go.Proofs.YtplekidnlofioaaW.PrintMore
attribute [local go_sem] max2_int min2_int max_two min_two max_three min_three max_four min_four   -- for this text's walks alone
set_option linter.unusedVariables false
set_option linter.unusedSimpArgs false

/-! ### laws_toPoint: function 180 -/
def laws_toPoint.f (a0_0 : Int) (a0_1 : Int) : Option (Int × Int) := some (a0_0, a0_1)
set_option maxHeartbeats 8000000 in
set_option maxRecDepth 100000 in
theorem laws_toPoint.calls (a0_0 : Int) (a0_1 : Int) (r1 : Int) (r2 : Int) (w : World) (h : laws_toPoint.f a0_0 a0_1 = some (r1, r2)) :
 Calls Try.prog 180 #[.agg #[.int .i64 a0_0, .int .i64 a0_1]] w fun e w' => e = .returned (.agg #[.int .i64 r1, .int .i64 r2]) ∧ Below w.heap.size w w' := by
 have hu219 := Try.underlying219
 have hu37 := Try.underlying37
 have HB := Aside0.mk (Below.refl w.heap.size w)
 have H : (some (a0_0, a0_1)) = some (r1, r2) := h
 clear h
 simp only [Option.some.injEq, Prod.mk.injEq] at H
 obtain ⟨rfl, rfl⟩ := H
 go_enter Try.func180, Try.ntmps180
 go_wp2_with (first | ((with_reducible refine gate_dst (N := 1) rfl ?_); refine bx 1 #[.int .i64 a0_0, .int .i64 a0_1] 219 ?_; intro gb264 hg w2 hbox hb; have BK264 := ak hbox; have GW264 := gs hg bl; have GE264 := gs hg bl; replace HB := ak (below_step bl hb); clear hb hbox hg) | ((with_reducible refine gate_dst (N := 2) rfl ?_); refine bx 2 #[.int .i64 0, .int .i64 0] 37 ?_; intro gb265 hg w3 hbox hb; have BK265 := ak hbox; have GW265 := gs hg (bl1 GE264); have GE265 := gs hg (bl1 GE264); replace HB := ak (below_step (bl1 GE264) hb); have NB264_265 := nl hg BK264; have NB265_264 := ng hg BK264; replace BK264 := bb BK264 hb; clear hb hbox hg) | ((with_reducible refine gate_dst (N := 3) rfl ?_); refine bx 3 #[.int .i64 0, .int .i64 0] 37 ?_; intro gb266 hg w4 hbox hb; have BK266 := ak hbox; have GW266 := gs hg (bl2 GE264 GE265); have GE266 := gs hg (bl2 GE264 GE265); replace HB := ak (below_step (bl2 GE264 GE265) hb); have NB264_266 := nl hg BK264; have NB266_264 := ng hg BK264; replace BK264 := bb BK264 hb; have NB265_266 := nl hg BK265; have NB266_265 := ng hg BK265; replace BK265 := bb BK265 hb; clear hb hbox hg; have hnb5 := NB264_265.out; have hnc5 := NB265_264.out; have hnb6 := NB264_266.out; have hnc6 := NB266_264.out; obtain ⟨hcz7_0, hcz7_1, hfz7_0, hfz7_1⟩ := cz2 BK264; have hnb8 := NB266_265.out; have hnc8 := NB265_266.out; obtain ⟨hcz9_0, hcz9_1, hfz9_0, hfz9_1⟩ := cz2 BK266; obtain ⟨hcz10_0, hcz10_1, hfz10_0, hfz10_1⟩ := cz2 BK265))
 refine bodyPost_ret (results_cell_row rfl _ _ gb265 37 #[.int .i64 a0_0, .int .i64 a0_1] (0, 0) _ rfl (by (with_reducible repeat (first | refine blk_drewN ?_ _ | refine blk_drew ?_ | refine blk_alloc ?_ _)); refine blk_put (cs := #[.int .i64 a0_0, .int .i64 0]) ?_ 1 _ rfl; (with_reducible repeat (first | refine blk_drewN ?_ _ | refine blk_drew ?_ | refine blk_alloc ?_ _)); refine blk_put (cs := #[.int .i64 0, .int .i64 0]) ?_ 0 _ rfl; (with_reducible repeat (first | refine blk_drewN ?_ _ | refine blk_drew ?_ | refine blk_alloc ?_ _)); refine blk_far ?_ NB265_266.out _; (with_reducible repeat (first | refine blk_drewN ?_ _ | refine blk_drew ?_ | refine blk_alloc ?_ _)); refine blk_far ?_ NB265_266.out _; (with_reducible repeat (first | refine blk_drewN ?_ _ | refine blk_drew ?_ | refine blk_alloc ?_ _)); exact BK265.out) Try.underlying37 rfl (by kernel_rfl)) rfl ?_
 exact ⟨ew, bl3 GE264 GE265 GE266⟩

end Go.Proofs.Ytplekidnlofioaa.Q
namespace Go.Proofs.Ytplekidnlofioaa.Q
open Go.RowKit Go.Proofs.YtplekidnlofioaaW.PrintWords Go.Proofs.YtplekidnlofioaaW.PrintLast Go.Proofs.YtplekidnlofioaaW.PrintMore
attribute [local go_sem] max2_int min2_int max_two min_two max_three min_three max_four min_four   -- for this text's walks alone
set_option linter.unusedVariables false
set_option linter.unusedSimpArgs false

/-! ### laws_toPointS: function 135 -/
def laws_toPointS.l0 : Nat → List (S219) → List (S37) → Int → Option ((List (S37)))
 | 0, _, _, _ => none
 | k + 1, x0, x3, x4 => if x4 < (x0.length : Int) then (if 0 ≤ x4 then ((laws_toPoint.f ((rd_T219 x0 x4).f0) ((rd_T219 x0 x4).f1)).bind fun bt271 => (if x4 < (x3.length : Int) then (laws_toPointS.l0 k x0 (x3.set (x4 : Int).toNat (⟨bt271.1, bt271.2⟩ : S37)) (wrap64 (x4 + 1))) else (none))) else (none)) else (some x3)
def laws_toPointS.f (k : Nat) (l0 : List (S219)) : Option ((List (S37))) := if 0 ≤ (l0.length : Int) then (if ((l0.length : Int) : Int).toNat ≤ 17592186044416 then (laws_toPointS.l0 k l0 (List.replicate ((l0.length : Int) : Int).toNat z37) 0) else (none)) else (none)
theorem laws_toPointS.mono_l : ∀ k, (∀ y0 y1 y2, LeO (laws_toPointS.l0 k y0 y1 y2) (laws_toPointS.l0 (k + 1) y0 y1 y2))
 | 0 => fun _ _ _ r h => by simp [laws_toPointS.l0] at h
 | k + 1 => by
  have ih0 := laws_toPointS.mono_l k
  · intro y0 y1 y2
    unfold laws_toPointS.l0
    repeat' first
    | (with_reducible exact ih0 _ _ _)
    | (with_reducible exact LeO.refl _)
    | (with_reducible exact LeO.none _)
    | (with_reducible refine LeO.ite ?_ ?_)
    | (with_reducible refine LeO.bind ?_ (fun _ => ?_))
    | exact ih0 _ _ _
    | exact LeO.none _
    | refine LeO.ite ?_ ?_
    | refine LeO.bind ?_ (fun _ => ?_)
theorem laws_toPointS.mono : ∀ a0 k, LeO (laws_toPointS.f k a0) (laws_toPointS.f (k + 1) a0) := by
 intro a0 k
 have ih0 := laws_toPointS.mono_l k
 unfold laws_toPointS.f
 repeat' first
  | (with_reducible exact ih0 _ _ _)
  | (with_reducible exact LeO.refl _)
  | (with_reducible exact LeO.none _)
  | (with_reducible refine LeO.ite ?_ ?_)
  | (with_reducible refine LeO.bind ?_ (fun _ => ?_))
  | exact ih0 _ _ _
  | exact LeO.none _
  | refine LeO.ite ?_ ?_
  | refine LeO.bind ?_ (fun _ => ?_)
set_option maxHeartbeats 8000000 in
set_option maxRecDepth 100000 in
theorem laws_toPointS.calls (k : Nat) (A0 : Option Addr) (c0 : Nat) (l0 : List (S219)) (r : List (S37)) (w : World) (hr0 : Kd.C k219 w A0 l0.length l0) (hc0 : l0.length ≤ c0) (h : laws_toPointS.f k l0 = some r) :
 Calls Try.prog 135 #[.slice A0 l0.length c0] w fun e w' => ∃ v0_ : Value, e = .returned (v0_) ∧ Kd.R k37 37 w' w.heap.size (fun _ => True) v0_ r ∧ Below w.heap.size w w' := by
 have hu219 := Try.underlying219
 have hu37 := Try.underlying37
 have HR0 := Aside0.mk hr0
 have HC0 := Aside0.mk hc0
 clear hr0 hc0
 have HB := Aside0.mk (Below.refl w.heap.size w)
 have H : (if 0 ≤ (l0.length : Int) then (if ((l0.length : Int) : Int).toNat ≤ 17592186044416 then (laws_toPointS.l0 k l0 (List.replicate ((l0.length : Int) : Int).toNat z37) 0) else (none)) else (none)) = some r := h
 clear h
 by_cases c2 : 0 ≤ (l0.length : Int)
 · rw [if_pos c2] at H
   have c2b0 := eq_true c2
   have c2b1 : decide (0 ≤ (l0.length : Int)) = true := decide_eq_true c2
   clear c2
   by_cases c3 : ((l0.length : Int) : Int).toNat ≤ 17592186044416
   · rw [if_pos c3] at H
     have c3b0 := eq_true c3
     have c3b1 : decide (((l0.length : Int) : Int).toNat ≤ 17592186044416) = true := decide_eq_true c3
     clear c3
     obtain ⟨y267, hy267⟩ : ∃ y_ : List (S37), y_ = (List.replicate ((l0.length : Int) : Int).toNat z37) := ⟨_, rfl⟩
     replace H : (laws_toPointS.l0 k l0 y267 0) = some r := by first | (rw [hy267]; with_reducible exact H) | (have H2_ := (Option.bind_some _ _).symm.trans H; rw [hy267]; with_reducible exact H2_) | (have H2_ := (Option.bind_some _ _).symm.trans H; with_reducible exact H2_) | with_reducible exact H | (rw [hy267]; exact H) | exact H
     have Ny267 := Aside0.mk hy267
     clear hy267
     have H' := Aside0.mk H
     clear H
     go_enter Try.func135, Try.ntmps135
     go_wp2_with (first | ((with_reducible refine gate_dst (N := 7) rfl ?_); refine Kd.R_make k37 _ 37 rfl (N := 7) rfl 31 _ _ rfl (l0.length : Int) rfl rfl Try.underlying31 (.agg #[(.int .i64 0), (.int .i64 0)]) 16 info37 rfl (by decide) (by omega) z37 (ok := fun _ => True) (okp := fun _ => True) (k37_mkM _ _ _ z37 ) (fun _ hk => hk) trivial (of_decide_eq_true am) (Nat.le_trans (Nat.mul_le_mul_right _ (of_decide_eq_true am : (l0.length : Int).toNat ≤ 17592186044416)) (by omega)) (Below.refl _ _) (Nat.le_refl _) ?_; intro v268 w4 ho5 hb hg_ hnew_; clear hg_ hnew_; (first | rw [← Ny267.out] at ho5 | (simp only [Int.reduceToNat] at ho5; rw [← Ny267.out] at ho5)); have HO269 := ak (Kd.R_lower ho5 (below_size bl)); replace HB := ak (below_step bl hb); clear hb ho5))
     go_loopg [4] k (fun kq v4 w' => ∃ (x3_1 : List (S37)) (x4_1 : Int), v4 = .int .i64 x4_1 ∧ Aside0 (laws_toPointS.l0 kq l0 x3_1 x4_1 = some r) ∧ Aside0 (kq ≤ k) ∧ Aside0 (Kd.R k37 37 w' w.heap.size (fun _ => True) v268 x3_1) ∧ Aside0 (Below w.heap.size w w'))
     case atStart => exact ⟨(y267), (0), es, H', ⟨Nat.le_refl _⟩, ⟨kr HO269⟩, ⟨bl⟩⟩
     case round =>
      clear H'
      try clear c1
      try clear c2
      try clear c2b0
      try clear c2b1
      try clear p2
      try clear c3
      try clear c3b0
      try clear c3b1
      obtain ⟨x3_1, x4_1, rfl, HA, HK1, HO_3, HB⟩ := hrel
      cases gk with
      | zero => exact absurd HA.out (by simp [laws_toPointS.l0])
      | succ k1 =>
       have H := HA.out
       clear HA
       simp only [laws_toPointS.l0] at H
       by_cases c6 : x4_1 < (l0.length : Int)
       · rw [if_pos c6] at H
         have c6b0 : decide (x4_1 < (l0.length : Int)) = true := decide_eq_true c6
         clear c6
         by_cases c7 : 0 ≤ x4_1
         · rw [if_pos c7] at H
           have c7b0 : decide (0 ≤ x4_1) = true := decide_eq_true c7
           clear c7
           replace H := Option.bind_eq_some_iff.mp H
           obtain ⟨⟨t271, t272⟩, A80, H⟩ := H
           replace H : (if x4_1 < (x3_1.length : Int) then (laws_toPointS.l0 k1 l0 (x3_1.set (x4_1 : Int).toNat (⟨t271, t272⟩ : S37)) (wrap64 (x4_1 + 1))) else (none)) = some r := H
           have A8 := Aside0.mk A80
           clear A80
           by_cases c9 : x4_1 < (x3_1.length : Int)
           · rw [if_pos c9] at H
             have c9b0 : decide (x4_1 < (x3_1.length : Int)) = true := decide_eq_true c9
             clear c9
             obtain ⟨y273, hy273⟩ : ∃ y_ : List (S37), y_ = (x3_1.set (x4_1 : Int).toNat (⟨t271, t272⟩ : S37)) := ⟨_, rfl⟩
             replace H : (laws_toPointS.l0 k1 l0 y273 (wrap64 (x4_1 + 1))) = some r := by first | (rw [hy273]; with_reducible exact H) | (have H2_ := (Option.bind_some _ _).symm.trans H; rw [hy273]; with_reducible exact H2_) | (have H2_ := (Option.bind_some _ _).symm.trans H; with_reducible exact H2_) | with_reducible exact H | (rw [hy273]; exact H) | exact H
             have Ny273 := Aside0.mk hy273
             clear hy273
             have H' := Aside0.mk H
             clear H
             have p270 : 0 ≤ (x4_1 : Int) := of_decide_eq_true am
             have q270 : x4_1 < (l0.length : Int) := of_decide_eq_true am
             obtain ⟨ad270, e270, hx270_0, hx270_1⟩ := at_T219 HR0.out x4_1 p270 q270
             cases e270
             replace hx270_0 := cw hx270_0
             replace hx270_1 := cw hx270_1
             replace p270 := eq_true p270
             replace q270 := eq_true q270
             go_wp2_with (first | ((with_reducible refine gate_callee (f := 180) rfl ?_); refine gl (some 20) Try.func180 #[.agg #[.int .i64 ((rd_T219 l0 x4_1).f0), .int .i64 ((rd_T219 l0 x4_1).f1)]] ?_; (with_reducible refine (laws_toPoint.calls ((rd_T219 l0 x4_1).f0) ((rd_T219 l0 x4_1).f1) t271 t272 _ A8.out).mono ?_); rintro e w11 ⟨rfl, hb⟩; refine ⟨_, rfl, ?_⟩; replace HO_3 := ak (Kd.R_below (kr HO_3) hb); replace HB := ak (below_step bl hb); (try clear hb); (try clear hb2); (try clear hk); (try clear hi); have p10 : 0 ≤ (x4_1 : Int) := of_decide_eq_true am; have q10 : (x4_1 : Int) < ((x3_1.length : Int) : Int) := of_decide_eq_true am; obtain ⟨go10, co10, eo10, gb10, gl10, cl10, HG10⟩ := Kd.R_form HO_3.out (by omega); (first | cases eo10 | (injection eo10 with ea_ en_ ec_; (first | subst ea_ | (injection ea_ with ea_; subst ea_)); subst ec_; clear en_)); have GB10 := Aside0.mk gb10; have GG10 := Aside0.mk HG10; clear gb10 gl10 HG10; obtain ⟨ce10, hcl10, hM10, hcc10, hfr10⟩ := Kd.R_elem HO_3.out z37 (x4_1 : Int) p10 q10; obtain rfl := k37_openM hM10; have hx10_0 : w11.cell? ⟨go10, (x4_1 : Int).toNat * 2, none⟩ = some (.int .i64 ((rd_T37 x3_1 x4_1).f0)) := hcc10 0 _ rfl; have hx10_1 : w11.cell? ⟨go10, (x4_1 : Int).toNat * 2 + 1, none⟩ = some (.int .i64 ((rd_T37 x3_1 x4_1).f1)) := hcc10 1 _ rfl; have hf10_0 : w11.frozen? ⟨go10, (x4_1 : Int).toNat * 2, none⟩ = false := hfr10 0; have hf10_1 : w11.frozen? ⟨go10, (x4_1 : Int).toNat * 2 + 1, none⟩ = false := hfr10 1; clear hcl10 hcc10 hfr10 hM10; replace p10 := eq_true p10; replace q10 := eq_true q10; have HX12 := Aside0.mk (show Kd.R k37 37 w11 w.heap.size (fun _ => True) (.slice (some ⟨go10, 0, none⟩) x3_1.length co10) x3_1 from (kr HO_3)); obtain ⟨ce12, hcl12, hM12, hcc12, hfr12⟩ := Kd.R_elem HX12.out z37 (x4_1 : Int) (of_decide_eq_true am) (by have h_ : (x4_1 : Int) < ((x3_1.length : Int) : Int) := of_decide_eq_true am; first | exact h_ | (have e_ := (Kd.R_reads' HO_3.out).1; omega) | simpa using h_); obtain rfl := k37_openM hM12; have HP12 := Kd.R_seg HX12.out (x4_1 : Int) (of_decide_eq_true am) (by have h_ : (x4_1 : Int) < ((x3_1.length : Int) : Int) := of_decide_eq_true am; first | exact h_ | (have e_ := (Kd.R_reads' HO_3.out).1; omega) | simpa using h_) (seg := [.int .i64 t271, .int .i64 t272]) (j := 0) hcl12 hcc12 (show 2 ≤ 2 from by decide) (x' := (⟨t271, t272⟩ : S37)) (k37_mkM _ _ _ (⟨t271, t272⟩ : S37) ) (fun _ hk => hk); have hx12_0 := hcc12 0 _ rfl; (try simp only [show (k37).sz = 2 from rfl, Nat.mul_one, Nat.add_zero] at hx12_0); have hf12_0 := hfr12 0; (try simp only [show (k37).sz = 2 from rfl, Nat.mul_one, Nat.add_zero] at hf12_0); have hx12_1 := hcc12 1 _ rfl; (try simp only [show (k37).sz = 2 from rfl, Nat.mul_one, Nat.add_zero] at hx12_1); have hf12_1 := hfr12 1; (try simp only [show (k37).sz = 2 from rfl, Nat.mul_one, Nat.add_zero] at hf12_1); clear hcl12 hcc12 hfr12 hM12) | ((with_reducible refine gate_store (t := 37) (p := 21) rfl ?_); refine store_event (t := 37) (p := 21) (v := ?vo_w13) (w1 := ((w11.setCell ⟨go10, (x4_1 : Int).toNat * 2, none⟩ (.int .i64 t271)).setCell ⟨go10, (x4_1 : Int).toNat * 2 + 1, none⟩ (.int .i64 t272))) ?hg ?ho ?hn ?hr ?_; (case ho => rfl); (case hg => rfl); (case hn => rfl); (case hr => first | (go_simp; done) | (go_simp; rfl)); intro w13 hw; have hg : w11.grownBy w13 (some go10) := (by rw [hw]; exact HP12.2); have hp_ : Kd.R k37 37 w13 w.heap.size (fun _ => True) (.slice (some ⟨go10, 0, none⟩) x3_1.length co10) y273 := (by rw [hw, Ny273.out]; exact HP12.1); clear HP12; replace HO_3 := ak hp_; replace HB := ak (by rw [hw]; exact below_set (below_set (HB.out) GB10.out) GB10.out : Below w.heap.size w w13); clear hg hw hp_))
             go_roundg k1
             case measure => have := HK1.out; omega
             case rel => exact ⟨(y273), (wrap64 (x4_1 + 1)), es, H', ⟨kp⟩, ⟨kr HO_3⟩, ⟨bl⟩⟩
           · rw [if_neg c9] at H
             exact absurd H (by simp)
         · rw [if_neg c7] at H
           exact absurd H (by simp)
       · rw [if_neg c6] at H
         have c6b0 : decide (x4_1 < (l0.length : Int)) = false := decide_eq_false c6
         clear c6
         obtain rfl := Option.some.inj H
         go_wp2
         go_ret
         exact ⟨_, ew, kr HO_3, bl⟩
   · rw [if_neg c3] at H
     exact absurd H (by simp)
 · rw [if_neg c2] at H
   exact absurd H (by simp)

end Go.Proofs.Ytplekidnlofioaa.Q
namespace Go.Proofs.Ytplekidnlofioaa.Q
open Go.RowKit Go.Proofs.YtplekidnlofioaaW.PrintWords Go.Proofs.YtplekidnlofioaaW.PrintLast Go.Proofs.YtplekidnlofioaaW.PrintMore
attribute [local go_sem] max2_int min2_int max_two min_two max_three min_three max_four min_four   -- for this text's walks alone
set_option linter.unusedVariables false
set_option linter.unusedSimpArgs false

/-! ### laws_toSeries: function 80 -/
def laws_toSeries.f (k : Nat) (a0_0 : ByteArray) (a0_1 : ByteArray) (l0_2 : List (S219)) : Option (ByteArray × ByteArray × (List (S37))) := (laws_toPointS.f k l0_2).bind fun t277 => (some (a0_0, a0_1, t277))
theorem laws_toSeries.mono : ∀ a0 a1 a2 k, LeO (laws_toSeries.f k a0 a1 a2) (laws_toSeries.f (k + 1) a0 a1 a2) := by
 intro a0 a1 a2 k
 unfold laws_toSeries.f
 repeat' first
  | (with_reducible exact laws_toPointS.mono _ _)
  | (with_reducible exact LeO.refl _)
  | (with_reducible exact LeO.none _)
  | (with_reducible refine LeO.ite ?_ ?_)
  | (with_reducible refine LeO.bind ?_ (fun _ => ?_))
  | exact laws_toPointS.mono _ _
  | exact LeO.none _
  | refine LeO.ite ?_ ?_
  | refine LeO.bind ?_ (fun _ => ?_)
set_option maxHeartbeats 8000000 in
set_option maxRecDepth 100000 in
theorem laws_toSeries.calls (k : Nat) (a0_0 : ByteArray) (a0_1 : ByteArray) (A0_2 : Option Addr) (c0_2 : Nat) (l0_2 : List (S219)) (r1 : ByteArray) (r2 : ByteArray) (r3 : List (S37)) (w : World) (hr0_2 : Kd.C k219 w A0_2 l0_2.length l0_2) (hc0_2 : l0_2.length ≤ c0_2) (h : laws_toSeries.f k a0_0 a0_1 l0_2 = some (r1, r2, r3)) :
 Calls Try.prog 80 #[.agg #[.string a0_0, .string a0_1, .slice A0_2 l0_2.length c0_2]] w fun e w' => ∃ v2_ : Value, e = .returned (.agg #[.string r1, .string r2, v2_]) ∧ Kd.R k37 37 w' w.heap.size (fun _ => True) v2_ r3 ∧ Below w.heap.size w w' := by
 have hu137 := Try.underlying137
 have hu81 := Try.underlying81
 have HR0_2 := Aside0.mk hr0_2
 have HC0_2 := Aside0.mk hc0_2
 clear hr0_2 hc0_2
 have HB := Aside0.mk (Below.refl w.heap.size w)
 have H : ((laws_toPointS.f k l0_2).bind fun t277 => (some (a0_0, a0_1, t277))) = some (r1, r2, r3) := h
 clear h
 obtain ⟨t277, A20, H⟩ := bo H
 have A2 := Aside0.mk A20
 clear A20
 simp only [Option.some.injEq, Prod.mk.injEq] at H
 obtain ⟨rfl, rfl, rfl⟩ := H
 go_enter Try.func80, Try.ntmps80
 go_wp2_with (first | ((with_reducible refine gate_dst (N := 1) rfl ?_); refine bx 1 #[.string a0_0, .string a0_1, .slice A0_2 l0_2.length c0_2] 137 ?_; intro gb274 hg w3 hbox hb; have BK274 := ak hbox; have GW274 := gs hg bl; have GE274 := gs hg bl; replace HB := ak (below_step bl hb); clear hb hbox hg) | ((with_reducible refine gate_dst (N := 2) rfl ?_); refine bx 2 #[.string (⟨#[]⟩ : ByteArray), .string (⟨#[]⟩ : ByteArray), .slice none 0 0] 81 ?_; intro gb275 hg w4 hbox hb; have BK275 := ak hbox; have GW275 := gs hg (bl1 GE274); have GE275 := gs hg (bl1 GE274); replace HB := ak (below_step (bl1 GE274) hb); have NB274_275 := nl hg BK274; have NB275_274 := ng hg BK274; replace BK274 := bb BK274 hb; clear hb hbox hg) | ((with_reducible refine gate_dst (N := 3) rfl ?_); refine bx 3 #[.string (⟨#[]⟩ : ByteArray), .string (⟨#[]⟩ : ByteArray), .slice none 0 0] 81 ?_; intro gb276 hg w5 hbox hb; have BK276 := ak hbox; have GW276 := gs hg (bl2 GE274 GE275); have GE276 := gs hg (bl2 GE274 GE275); replace HB := ak (below_step (bl2 GE274 GE275) hb); have NB274_276 := nl hg BK274; have NB276_274 := ng hg BK274; replace BK274 := bb BK274 hb; have NB275_276 := nl hg BK275; have NB276_275 := ng hg BK275; replace BK275 := bb BK275 hb; clear hb hbox hg; have hnb6 := NB274_275.out; have hnc6 := NB275_274.out; have hnb7 := NB274_276.out; have hnc7 := NB276_274.out; obtain ⟨hcz8_0, hcz8_1, hcz8_2, hfz8_0, hfz8_1, hfz8_2⟩ := cz3 BK274; have hnb9 := NB276_275.out; have hnc9 := NB275_276.out; obtain ⟨hcz10_0, hcz10_1, hcz10_2, hfz10_0, hfz10_1, hfz10_2⟩ := cz3 BK276) | ((with_reducible refine gate_callee (f := 135) rfl ?_); refine gl (some 12) Try.func135 #[.slice A0_2 l0_2.length c0_2] ?_; (with_reducible refine (laws_toPointS.calls k _ _ l0_2 t277 _ ?side1 ?side2 A2.out).mono ?_); (case side1 => exact Kd.C_below HR0_2.out (bl3 GE274 GE275 GE276)); (case side2 => exact HC0_2.out); rintro e w11 ⟨v278, rfl, ho0, hb⟩; refine ⟨_, rfl, ?_⟩; have HO279 := ak (Kd.R_lower ho0 (below_size (bl3 GE274 GE275 GE276))); replace BK274 := bf1 BK274 NB274_276 hb; replace BK275 := bf1 BK275 NB275_276 hb; replace BK276 := ak (blk_below (g := gb276) (o := .cells #[.string a0_0, .string a0_1, .slice none 0 0] 81 (0, 0)) (by (with_reducible repeat (first | refine blk_drewN ?_ _ | refine blk_drew ?_ | refine blk_alloc ?_ _)); refine blk_put (cs := #[.string a0_0, .string (⟨#[]⟩ : ByteArray), .slice none 0 0]) ?_ 1 _ rfl; (with_reducible repeat (first | refine blk_drewN ?_ _ | refine blk_drew ?_ | refine blk_alloc ?_ _)); refine blk_put (cs := #[.string (⟨#[]⟩ : ByteArray), .string (⟨#[]⟩ : ByteArray), .slice none 0 0]) ?_ 0 _ rfl; (with_reducible repeat (first | refine blk_drewN ?_ _ | refine blk_drew ?_ | refine blk_alloc ?_ _)); exact BK276.out) hb); replace HB := ak (below_step (bl3 GE274 GE275 GE276) hb); (try clear hb); (try clear hb2); (try clear hk); (try clear hi); (try clear ho0); obtain ⟨Ao12, co12, eo12⟩ := Kd.R_slice HO279.out; subst eo12; obtain ⟨hcz13_0, hcz13_1, hcz13_2, hfz13_0, hfz13_1, hfz13_2⟩ := cz3 BK276; obtain ⟨hcz14_0, hcz14_1, hcz14_2, hfz14_0, hfz14_1, hfz14_2⟩ := cz3 BK275))
 refine bodyPost_ret (results_cell_row rfl _ _ gb275 81 #[.string a0_0, .string a0_1, .slice Ao12 t277.length co12] (0, 0) _ rfl (by (with_reducible repeat (first | refine blk_drewN ?_ _ | refine blk_drew ?_ | refine blk_alloc ?_ _)); refine blk_put (cs := #[.string a0_0, .string a0_1, .slice none 0 0]) ?_ 2 _ rfl; (with_reducible repeat (first | refine blk_drewN ?_ _ | refine blk_drew ?_ | refine blk_alloc ?_ _)); refine blk_put (cs := #[.string a0_0, .string (⟨#[]⟩ : ByteArray), .slice none 0 0]) ?_ 1 _ rfl; (with_reducible repeat (first | refine blk_drewN ?_ _ | refine blk_drew ?_ | refine blk_alloc ?_ _)); refine blk_put (cs := #[.string (⟨#[]⟩ : ByteArray), .string (⟨#[]⟩ : ByteArray), .slice none 0 0]) ?_ 0 _ rfl; (with_reducible repeat (first | refine blk_drewN ?_ _ | refine blk_drew ?_ | refine blk_alloc ?_ _)); refine blk_far ?_ NB275_276.out _; (with_reducible repeat (first | refine blk_drewN ?_ _ | refine blk_drew ?_ | refine blk_alloc ?_ _)); exact BK275.out) Try.underlying81 rfl (by kernel_rfl)) rfl ?_
 exact ⟨_, ew, by (with_reducible repeat (first | apply Kd.R_alloc | apply Kd.R_drewN | apply Kd.R_drew)); exact Kd.R_mono (Kd.R_far (p := ⟨gb275, 2, none⟩) (Kd.R_far (p := ⟨gb275, 1, none⟩) (Kd.R_far (p := ⟨gb275, 0, none⟩) (Kd.R_far (p := ⟨gb276, 2, none⟩) (Kd.R_types (Kd.R_types HO279.out BK276.out (by decide)) BK275.out (by decide)) (fun _ hk => hk.1.2) (.slice Ao12 t277.length co12)) (fun _ hk => hk.2) (.string a0_0)) (fun _ hk => hk.2) (.string a0_1)) (fun _ hk => hk.2) (.slice Ao12 t277.length co12)) (fun _ hk => trivial), bl3 GE274 GE275 GE276⟩

end Go.Proofs.Ytplekidnlofioaa.Q
namespace Go.Proofs.Ytplekidnlofioaa.Q
open Go.RowKit Go.Proofs.YtplekidnlofioaaW.PrintWords Go.Proofs.YtplekidnlofioaaW.PrintLast Go.Proofs.YtplekidnlofioaaW.PrintMore
attribute [local go_sem] max2_int min2_int max_two min_two max_three min_three max_four min_four   -- for this text's walks alone
set_option linter.unusedVariables false
set_option linter.unusedSimpArgs false

/-! ### laws_toSeriesS: function 23 -/
def laws_toSeriesS.l0 : Nat → List (S137) → List (S81) → Int → Option ((List (S81)))
 | 0, _, _, _ => none
 | k + 1, x0, x3, x4 => if x4 < (x0.length : Int) then (if 0 ≤ x4 then ((laws_toSeries.f k ((rd_T137 x0 x4).f0) ((rd_T137 x0 x4).f1) ((rd_T137 x0 x4).f2)).bind fun bt284 => (if x4 < (x3.length : Int) then (laws_toSeriesS.l0 k x0 (x3.set (x4 : Int).toNat (⟨bt284.1, bt284.2.1, bt284.2.2⟩ : S81)) (wrap64 (x4 + 1))) else (none))) else (none)) else (some x3)
def laws_toSeriesS.f (k : Nat) (l0 : List (S137)) : Option ((List (S81))) := if 0 ≤ (l0.length : Int) then (if ((l0.length : Int) : Int).toNat ≤ 5026338869833 then (laws_toSeriesS.l0 k l0 (List.replicate ((l0.length : Int) : Int).toNat z81) 0) else (none)) else (none)
theorem laws_toSeriesS.mono_l : ∀ k, (∀ y0 y1 y2, LeO (laws_toSeriesS.l0 k y0 y1 y2) (laws_toSeriesS.l0 (k + 1) y0 y1 y2))
 | 0 => fun _ _ _ r h => by simp [laws_toSeriesS.l0] at h
 | k + 1 => by
  have ih0 := laws_toSeriesS.mono_l k
  · intro y0 y1 y2
    unfold laws_toSeriesS.l0
    repeat' first
    | (with_reducible exact ih0 _ _ _)
    | (with_reducible exact laws_toSeries.mono _ _ _ _)
    | (with_reducible exact LeO.refl _)
    | (with_reducible exact LeO.none _)
    | (with_reducible refine LeO.ite ?_ ?_)
    | (with_reducible refine LeO.bind ?_ (fun _ => ?_))
    | exact ih0 _ _ _
    | exact laws_toSeries.mono _ _ _ _
    | exact LeO.none _
    | refine LeO.ite ?_ ?_
    | refine LeO.bind ?_ (fun _ => ?_)
theorem laws_toSeriesS.mono : ∀ a0 k, LeO (laws_toSeriesS.f k a0) (laws_toSeriesS.f (k + 1) a0) := by
 intro a0 k
 have ih0 := laws_toSeriesS.mono_l k
 unfold laws_toSeriesS.f
 repeat' first
  | (with_reducible exact ih0 _ _ _)
  | (with_reducible exact laws_toSeries.mono _ _ _ _)
  | (with_reducible exact LeO.refl _)
  | (with_reducible exact LeO.none _)
  | (with_reducible refine LeO.ite ?_ ?_)
  | (with_reducible refine LeO.bind ?_ (fun _ => ?_))
  | exact ih0 _ _ _
  | exact laws_toSeries.mono _ _ _ _
  | exact LeO.none _
  | refine LeO.ite ?_ ?_
  | refine LeO.bind ?_ (fun _ => ?_)
set_option maxHeartbeats 8000000 in
set_option maxRecDepth 100000 in
theorem laws_toSeriesS.calls (k : Nat) (A0 : Option Addr) (c0 : Nat) (l0 : List (S137)) (r : List (S81)) (w : World) (hr0 : Kd.C k137 w A0 l0.length l0) (hc0 : l0.length ≤ c0) (h : laws_toSeriesS.f k l0 = some r) :
 Calls Try.prog 23 #[.slice A0 l0.length c0] w fun e w' => ∃ v0_ : Value, e = .returned (v0_) ∧ Kd.S k81 81 w' w.heap.size (fun _ => True) v0_ r ∧ Below w.heap.size w w' := by
 have hu137 := Try.underlying137
 have hu81 := Try.underlying81
 have HR0 := Aside0.mk hr0
 have HC0 := Aside0.mk hc0
 clear hr0 hc0
 have HB := Aside0.mk (Below.refl w.heap.size w)
 have H : (if 0 ≤ (l0.length : Int) then (if ((l0.length : Int) : Int).toNat ≤ 5026338869833 then (laws_toSeriesS.l0 k l0 (List.replicate ((l0.length : Int) : Int).toNat z81) 0) else (none)) else (none)) = some r := h
 clear h
 by_cases c2 : 0 ≤ (l0.length : Int)
 · rw [if_pos c2] at H
   have c2b0 := eq_true c2
   have c2b1 : decide (0 ≤ (l0.length : Int)) = true := decide_eq_true c2
   clear c2
   by_cases c3 : ((l0.length : Int) : Int).toNat ≤ 5026338869833
   · rw [if_pos c3] at H
     have c3b0 := eq_true c3
     have c3b1 : decide (((l0.length : Int) : Int).toNat ≤ 5026338869833) = true := decide_eq_true c3
     clear c3
     obtain ⟨y280, hy280⟩ : ∃ y_ : List (S81), y_ = (List.replicate ((l0.length : Int) : Int).toNat z81) := ⟨_, rfl⟩
     replace H : (laws_toSeriesS.l0 k l0 y280 0) = some r := by first | (rw [hy280]; with_reducible exact H) | (have H2_ := (Option.bind_some _ _).symm.trans H; rw [hy280]; with_reducible exact H2_) | (have H2_ := (Option.bind_some _ _).symm.trans H; with_reducible exact H2_) | with_reducible exact H | (rw [hy280]; exact H) | exact H
     have Ny280 := Aside0.mk hy280
     clear hy280
     have H' := Aside0.mk H
     clear H
     go_enter Try.func23, Try.ntmps23
     go_wp2_with (first | ((with_reducible refine gate_dst (N := 7) rfl ?_); refine Kd.S_make k81 _ 81 rfl (N := 7) rfl 24 _ _ rfl (l0.length : Int) rfl rfl Try.underlying24 (.agg #[(.string ⟨#[]⟩), (.string ⟨#[]⟩), (.slice none 0 0)]) 56 info81 rfl (by decide) (by omega) z81 (ok := fun _ => True) (okp := fun _ => True) (k81_mkM _ _ _ z81 (Kd.R_nil _ _ _ _ _)) (fun _ hk => hk) trivial (of_decide_eq_true am) (Nat.le_trans (Nat.mul_le_mul_right _ (of_decide_eq_true am : (l0.length : Int).toNat ≤ 5026338869833)) (by omega)) (Below.refl _ _) (Nat.le_refl _) ?_; intro v281 w4 ho5 hb hg_ hnew_; clear hg_ hnew_; (first | rw [← Ny280.out] at ho5 | (simp only [Int.reduceToNat] at ho5; rw [← Ny280.out] at ho5)); have HO282 := ak (Kd.S_lower ho5 (below_size bl)); replace HB := ak (below_step bl hb); clear hb ho5))
     go_loopg [4] k (fun kq v4 w' => ∃ (x3_1 : List (S81)) (x4_1 : Int), v4 = .int .i64 x4_1 ∧ Aside0 (laws_toSeriesS.l0 kq l0 x3_1 x4_1 = some r) ∧ Aside0 (kq ≤ k) ∧ Aside0 (Kd.S k81 81 w' w.heap.size (fun _ => True) v281 x3_1) ∧ Aside0 (Below w.heap.size w w'))
     case atStart => exact ⟨(y280), (0), es, H', ⟨Nat.le_refl _⟩, ⟨ks HO282⟩, ⟨bl⟩⟩
     case round =>
      clear H'
      try clear c2
      try clear c2b0
      try clear c2b1
      try clear p2
      try clear c3
      try clear c3b0
      try clear c3b1
      obtain ⟨x3_1, x4_1, rfl, HA, HK1, HO_3, HB⟩ := hrel
      cases gk with
      | zero => exact absurd HA.out (by simp [laws_toSeriesS.l0])
      | succ k1 =>
       have H := HA.out
       clear HA
       simp only [laws_toSeriesS.l0] at H
       by_cases c6 : x4_1 < (l0.length : Int)
       · rw [if_pos c6] at H
         have c6b0 : decide (x4_1 < (l0.length : Int)) = true := decide_eq_true c6
         clear c6
         by_cases c7 : 0 ≤ x4_1
         · rw [if_pos c7] at H
           have c7b0 : decide (0 ≤ x4_1) = true := decide_eq_true c7
           clear c7
           replace H := Option.bind_eq_some_iff.mp H
           obtain ⟨⟨t284, t285, t286⟩, A80, H⟩ := H
           replace H : (if x4_1 < (x3_1.length : Int) then (laws_toSeriesS.l0 k1 l0 (x3_1.set (x4_1 : Int).toNat (⟨t284, t285, t286⟩ : S81)) (wrap64 (x4_1 + 1))) else (none)) = some r := H
           have A8 := Aside0.mk A80
           clear A80
           by_cases c9 : x4_1 < (x3_1.length : Int)
           · rw [if_pos c9] at H
             have c9b0 : decide (x4_1 < (x3_1.length : Int)) = true := decide_eq_true c9
             clear c9
             obtain ⟨y289, hy289⟩ : ∃ y_ : List (S81), y_ = (x3_1.set (x4_1 : Int).toNat (⟨t284, t285, t286⟩ : S81)) := ⟨_, rfl⟩
             replace H : (laws_toSeriesS.l0 k1 l0 y289 (wrap64 (x4_1 + 1))) = some r := by first | (rw [hy289]; with_reducible exact H) | (have H2_ := (Option.bind_some _ _).symm.trans H; rw [hy289]; with_reducible exact H2_) | (have H2_ := (Option.bind_some _ _).symm.trans H; with_reducible exact H2_) | with_reducible exact H | (rw [hy289]; exact H) | exact H
             have Ny289 := Aside0.mk hy289
             clear hy289
             have H' := Aside0.mk H
             clear H
             have p283 : 0 ≤ (x4_1 : Int) := of_decide_eq_true am
             have q283 : x4_1 < (l0.length : Int) := of_decide_eq_true am
             obtain ⟨ad283, A283_2, c283_2, e283, hx283_0, hx283_1, hx283_2, hl283_2, hi283_2⟩ := at_T137 HR0.out x4_1 p283 q283
             cases e283
             replace hx283_0 := cw hx283_0
             replace hx283_1 := cw hx283_1
             replace hx283_2 := cw hx283_2
             have HR283_2 := Aside0.mk hi283_2
             have HC283_2 := Aside0.mk hl283_2
             clear hi283_2 hl283_2
             replace p283 := eq_true p283
             replace q283 := eq_true q283
             go_wp2_with (first | ((with_reducible refine gate_callee (f := 80) rfl ?_); refine gl (some 20) Try.func80 #[.agg #[.string ((rd_T137 l0 x4_1).f0), .string ((rd_T137 l0 x4_1).f1), .slice A283_2 ((rd_T137 l0 x4_1).f2).length c283_2]] ?_; (with_reducible refine (laws_toSeries.calls k1 ((rd_T137 l0 x4_1).f0) ((rd_T137 l0 x4_1).f1) _ _ ((rd_T137 l0 x4_1).f2) t284 t285 t286 _ ?side1 ?side2 A8.out).mono ?_); (case side1 => exact cb HR283_2); (case side2 => exact HC283_2.out); rintro e w11 ⟨v287, rfl, ho0, hb⟩; refine ⟨_, rfl, ?_⟩; replace HO_3 := ak (Kd.S_elder' (ks HO_3) (Kd.R_base ho0) hb); have HO288 := ak (Kd.R_lower ho0 (below_size bl)); replace HB := ak (below_step bl hb); (try clear hb); (try clear hb2); (try clear hk); (try clear hi); (try clear ho0); have p10 : 0 ≤ (x4_1 : Int) := of_decide_eq_true am; have q10 : (x4_1 : Int) < ((x3_1.length : Int) : Int) := of_decide_eq_true am; obtain ⟨go10, co10, eo10, gb10, gl10, cl10, HG10⟩ := Kd.S_form HO_3.out (by omega); (first | cases eo10 | (injection eo10 with ea_ en_ ec_; (first | subst ea_ | (injection ea_ with ea_; subst ea_)); subst ec_; clear en_)); have GB10 := Aside0.mk gb10; have GG10 := Aside0.mk HG10; clear gb10 gl10 HG10; obtain ⟨_, ce10, hcl10, hM10, hcc10, hfr10, _, _⟩ := Kd.S_elem HO_3.out z81 (x4_1 : Int) p10 q10; obtain ⟨ve10_2, rfl, ge10_2⟩ := k81_openM hM10; have hx10_0 : w11.cell? ⟨go10, (x4_1 : Int).toNat * 3, none⟩ = some (.string ((rd_T81 x3_1 x4_1).f0)) := hcc10 0 _ rfl; have hx10_1 : w11.cell? ⟨go10, (x4_1 : Int).toNat * 3 + 1, none⟩ = some (.string ((rd_T81 x3_1 x4_1).f1)) := hcc10 1 _ rfl; have hx10_2 : w11.cell? ⟨go10, (x4_1 : Int).toNat * 3 + 2, none⟩ = some (ve10_2) := hcc10 2 _ rfl; have hf10_0 : w11.frozen? ⟨go10, (x4_1 : Int).toNat * 3, none⟩ = false := hfr10 0; have hf10_1 : w11.frozen? ⟨go10, (x4_1 : Int).toNat * 3 + 1, none⟩ = false := hfr10 1; have hf10_2 : w11.frozen? ⟨go10, (x4_1 : Int).toNat * 3 + 2, none⟩ = false := hfr10 2; clear hcl10 hcc10 hfr10 hM10; replace p10 := eq_true p10; replace q10 := eq_true q10; have n_ := Aside0.mk (Kd.S_mono (ok' := (fun k_ => some k_ ≠ (v287 : Value).ownBlock)) HO_3.out (fun k_ hk => hk.2)); clear HO_3; have HO_3 := n_; clear n_; have HX12 := Aside0.mk (show Kd.S k81 81 w11 w.heap.size (fun k_ => ((fun _ => True)) k_ ∧ ¬ ((fun k_ => some k_ = (v287 : Value).ownBlock)) k_) (.slice (some ⟨go10, 0, none⟩) x3_1.length co10) x3_1 from (by (with_reducible repeat (first | apply Kd.S_alloc | apply Kd.S_drewN | apply Kd.S_drew)); exact Kd.S_mono HO_3.out (fun k_ hk => ⟨trivial, fun e_ => hk e_⟩))); obtain ⟨oki12, ce12, hcl12, hM12, hcc12, hfr12, hoki12, hH12⟩ := Kd.S_elem HX12.out z81 (x4_1 : Int) (of_decide_eq_true am) (by have h_ : (x4_1 : Int) < ((x3_1.length : Int) : Int) := of_decide_eq_true am; first | exact h_ | (have e_ := (Kd.S_reads' HO_3.out).1; omega) | simpa using h_); obtain ⟨ve12_2, rfl, ge12_2⟩ := k81_openM hM12; have HP12 := Kd.S_seg hH12 (of_decide_eq_true am) (by have h_ : (x4_1 : Int) < ((x3_1.length : Int) : Int) := of_decide_eq_true am; first | exact h_ | (have e_ := (Kd.S_reads' HO_3.out).1; omega) | simpa using h_) (seg := [.string t284, .string t285, v287]) (j := 0) (show 3 ≤ 3 from by decide) (x' := (⟨t284, t285, t286⟩ : S81)) (k81_mkM _ _ _ (⟨t284, t285, t286⟩ : S81) (Kd.R_mono (Kd.R_tight rfl (Kd.R_mono (ok' := fun k_ => ((fun _ => True)) k_ ∧ k_ ≠ go10) (Kd.R_apart' (HO288.out) (Kd.S_typed HO_3.out) (by decide)) (fun k_ hk => ⟨trivial, fun e_ => (hk.2) (by rw [e_]; rfl)⟩))) (fun _ h_ => Or.inr (h_)))) (fun _ hk => hk) (fun k_ hk_ => ((Kd.R_mono (ok' := fun k_ => ((fun _ => True)) k_ ∧ k_ ≠ go10) (Kd.R_apart' (HO288.out) (Kd.S_typed HO_3.out) (by decide)) (fun k_ hk => ⟨trivial, fun e_ => (hk.2) (by rw [e_]; rfl)⟩))).1 k_ hk_.symm); have hx12_0 := hcc12 0 _ rfl; (try simp only [show (k81).sz = 3 from rfl, Nat.mul_one, Nat.add_zero] at hx12_0); have hf12_0 := hfr12 0; (try simp only [show (k81).sz = 3 from rfl, Nat.mul_one, Nat.add_zero] at hf12_0); have hx12_1 := hcc12 1 _ rfl; (try simp only [show (k81).sz = 3 from rfl, Nat.mul_one, Nat.add_zero] at hx12_1); have hf12_1 := hfr12 1; (try simp only [show (k81).sz = 3 from rfl, Nat.mul_one, Nat.add_zero] at hf12_1); have hx12_2 := hcc12 2 _ rfl; (try simp only [show (k81).sz = 3 from rfl, Nat.mul_one, Nat.add_zero] at hx12_2); have hf12_2 := hfr12 2; (try simp only [show (k81).sz = 3 from rfl, Nat.mul_one, Nat.add_zero] at hf12_2); clear hcl12 hcc12 hfr12 hM12 hoki12 hH12) | ((with_reducible refine gate_store (t := 81) (p := 21) rfl ?_); refine store_event (t := 81) (p := 21) (v := ?vo_w13) (w1 := (((w11.setCell ⟨go10, (x4_1 : Int).toNat * 3, none⟩ (.string t284)).setCell ⟨go10, (x4_1 : Int).toNat * 3 + 1, none⟩ (.string t285)).setCell ⟨go10, (x4_1 : Int).toNat * 3 + 2, none⟩ (v287))) ?hg ?ho ?hn ?hr ?_; (case ho => rfl); (case hg => rfl); (case hn => rfl); (case hr => first | (go_simp; done) | (go_simp; rfl) | (obtain ⟨az_, cz_, ez_⟩ := Kd.R_slice HO288.out; rw [ez_]; go_simp; done) | (obtain ⟨az_, cz_, ez_⟩ := Kd.R_slice HO288.out; rw [ez_]; go_simp; rfl)); intro w13 hw; have hg : w11.grownBy w13 (some go10) := (by rw [hw]; exact HP12.2); have hp_ : Kd.S k81 81 w13 w.heap.size (fun _ => True) (.slice (some ⟨go10, 0, none⟩) x3_1.length co10) y289 := (by rw [hw, Ny289.out]; exact HP12.1); clear HP12; replace HO_3 := ak hp_; replace HB := ak (by rw [hw]; exact below_set (below_set (below_set (HB.out) GB10.out) GB10.out) GB10.out : Below w.heap.size w w13); clear HO288; clear hg hw hp_))
             go_roundg k1
             case measure => have := HK1.out; omega
             case rel => exact ⟨(y289), (wrap64 (x4_1 + 1)), es, H', ⟨kp⟩, ⟨ks HO_3⟩, ⟨bl⟩⟩
           · rw [if_neg c9] at H
             exact absurd H (by simp)
         · rw [if_neg c7] at H
           exact absurd H (by simp)
       · rw [if_neg c6] at H
         have c6b0 : decide (x4_1 < (l0.length : Int)) = false := decide_eq_false c6
         clear c6
         obtain rfl := Option.some.inj H
         go_wp2
         go_ret
         exact ⟨_, ew, ks HO_3, bl⟩
   · rw [if_neg c3] at H
     exact absurd H (by simp)
 · rw [if_neg c2] at H
   exact absurd H (by simp)

end Go.Proofs.Ytplekidnlofioaa.Q
namespace Go.Proofs.Ytplekidnlofioaa.Q
open Go.RowKit Go.Proofs.YtplekidnlofioaaW.PrintWords Go.Proofs.YtplekidnlofioaaW.PrintLast Go.Proofs.YtplekidnlofioaaW.PrintMore
attribute [local go_sem] max2_int min2_int max_two min_two max_three min_three max_four min_four   -- for this text's walks alone
set_option linter.unusedVariables false
set_option linter.unusedSimpArgs false

/-! ### laws_eqPoint: function 181 -/
def laws_eqPoint.f (a0_0 : Int) (a0_1 : Int) (a1_0 : Int) (a1_1 : Int) : Option (Bool) := if a0_0 = a1_0 then (if a0_1 = a1_1 then (some true) else (some false)) else (some false)
set_option maxHeartbeats 8000000 in
set_option maxRecDepth 100000 in
theorem laws_eqPoint.calls (a0_0 : Int) (a0_1 : Int) (a1_0 : Int) (a1_1 : Int) (r : Bool) (w : World) (h : laws_eqPoint.f a0_0 a0_1 a1_0 a1_1 = some r) :
 Calls Try.prog 181 #[.agg #[.int .i64 a0_0, .int .i64 a0_1], .agg #[.int .i64 a1_0, .int .i64 a1_1]] w fun e w' => e = .returned (.bool r) ∧ Below w.heap.size w w' := by
 have hu37 := Try.underlying37
 have HB := Aside0.mk (Below.refl w.heap.size w)
 have H : (if a0_0 = a1_0 then (if a0_1 = a1_1 then (some true) else (some false)) else (some false)) = some r := h
 clear h
 by_cases c3 : a0_0 = a1_0
 · rw [if_pos c3] at H
   have c3b0 : (a0_0 == a1_0) = true := beq_iff_eq.mpr c3
   have c3b1 : (a0_0 != a1_0) = false := bne_eq_false_iff_eq.mpr c3
   clear c3
   by_cases c4 : a0_1 = a1_1
   · rw [if_pos c4] at H
     have c4b0 : (a0_1 == a1_1) = true := beq_iff_eq.mpr c4
     have c4b1 : (a0_1 != a1_1) = false := bne_eq_false_iff_eq.mpr c4
     clear c4
     obtain rfl := Option.some.inj H
     go_enter Try.func181, Try.ntmps181
     go_wp2_with (first | ((with_reducible refine gate_dst (N := 2) rfl ?_); refine bx 2 #[.int .i64 a0_0, .int .i64 a0_1] 37 ?_; intro gb290 hg w5 hbox hb; have BK290 := ak hbox; have GW290 := gs hg bl; have GE290 := gs hg bl; replace HB := ak (below_step bl hb); clear hb hbox hg) | ((with_reducible refine gate_dst (N := 3) rfl ?_); refine bx 3 #[.int .i64 a1_0, .int .i64 a1_1] 37 ?_; intro gb291 hg w6 hbox hb; have BK291 := ak hbox; have GW291 := gs hg (bl1 GE290); have GE291 := gs hg (bl1 GE290); replace HB := ak (below_step (bl1 GE290) hb); have NB290_291 := nl hg BK290; have NB291_290 := ng hg BK290; replace BK290 := bb BK290 hb; clear hb hbox hg; have hnb7 := NB290_291.out; have hnc7 := NB291_290.out; obtain ⟨hcz8_0, hcz8_1, hfz8_0, hfz8_1⟩ := cz2 BK290; obtain ⟨hcz9_0, hcz9_1, hfz9_0, hfz9_1⟩ := cz2 BK291))
     go_ret
     exact ⟨ew, bl2 GE290 GE291⟩
   · rw [if_neg c4] at H
     have c4b0 : (a0_1 == a1_1) = false := beq_eq_false_iff_ne.mpr c4
     have c4b1 : (a0_1 != a1_1) = true := bne_iff_ne.mpr c4
     obtain rfl := Option.some.inj H
     go_enter Try.func181, Try.ntmps181
     go_wp2_with (first | ((with_reducible refine gate_dst (N := 2) rfl ?_); refine bx 2 #[.int .i64 a0_0, .int .i64 a0_1] 37 ?_; intro gb290 hg w10 hbox hb; have BK290 := ak hbox; have GW290 := gs hg bl; have GE290 := gs hg bl; replace HB := ak (below_step bl hb); clear hb hbox hg) | ((with_reducible refine gate_dst (N := 3) rfl ?_); refine bx 3 #[.int .i64 a1_0, .int .i64 a1_1] 37 ?_; intro gb291 hg w11 hbox hb; have BK291 := ak hbox; have GW291 := gs hg (bl1 GE290); have GE291 := gs hg (bl1 GE290); replace HB := ak (below_step (bl1 GE290) hb); have NB290_291 := nl hg BK290; have NB291_290 := ng hg BK290; replace BK290 := bb BK290 hb; clear hb hbox hg; have hnb12 := NB290_291.out; have hnc12 := NB291_290.out; obtain ⟨hcz13_0, hcz13_1, hfz13_0, hfz13_1⟩ := cz2 BK290; obtain ⟨hcz14_0, hcz14_1, hfz14_0, hfz14_1⟩ := cz2 BK291))
     go_ret
     exact ⟨ew, bl2 GE290 GE291⟩
 · rw [if_neg c3] at H
   have c3b0 : (a0_0 == a1_0) = false := beq_eq_false_iff_ne.mpr c3
   have c3b1 : (a0_0 != a1_0) = true := bne_iff_ne.mpr c3
   obtain rfl := Option.some.inj H
   go_enter Try.func181, Try.ntmps181
   go_wp2_with (first | ((with_reducible refine gate_dst (N := 2) rfl ?_); refine bx 2 #[.int .i64 a0_0, .int .i64 a0_1] 37 ?_; intro gb290 hg w15 hbox hb; have BK290 := ak hbox; have GW290 := gs hg bl; have GE290 := gs hg bl; replace HB := ak (below_step bl hb); clear hb hbox hg) | ((with_reducible refine gate_dst (N := 3) rfl ?_); refine bx 3 #[.int .i64 a1_0, .int .i64 a1_1] 37 ?_; intro gb291 hg w16 hbox hb; have BK291 := ak hbox; have GW291 := gs hg (bl1 GE290); have GE291 := gs hg (bl1 GE290); replace HB := ak (below_step (bl1 GE290) hb); have NB290_291 := nl hg BK290; have NB291_290 := ng hg BK290; replace BK290 := bb BK290 hb; clear hb hbox hg; have hnb17 := NB290_291.out; have hnc17 := NB291_290.out; obtain ⟨hcz18_0, hcz18_1, hfz18_0, hfz18_1⟩ := cz2 BK290; obtain ⟨hcz19_0, hcz19_1, hfz19_0, hfz19_1⟩ := cz2 BK291))
   go_ret
   exact ⟨ew, bl2 GE290 GE291⟩

end Go.Proofs.Ytplekidnlofioaa.Q
namespace Go.Proofs.Ytplekidnlofioaa.Q
open Go.RowKit Go.Proofs.YtplekidnlofioaaW.PrintWords Go.Proofs.YtplekidnlofioaaW.PrintLast Go.Proofs.YtplekidnlofioaaW.PrintMore
attribute [local go_sem] max2_int min2_int max_two min_two max_three min_three max_four min_four   -- for this text's walks alone
set_option linter.unusedVariables false
set_option linter.unusedSimpArgs false

/-! ### laws_eqPointS: function 136 -/
def laws_eqPointS.l0 : Nat → List (S37) → List (S37) → Int → Option (Bool)
 | 0, _, _, _ => none
 | k + 1, x0, x1, x5 => if x5 < (x0.length : Int) then (if 0 ≤ x5 then (if x5 < (x1.length : Int) then ((laws_eqPoint.f ((rd_T37 x0 x5).f0) ((rd_T37 x0 x5).f1) ((rd_T37 x1 x5).f0) ((rd_T37 x1 x5).f1)).bind fun t294 => (if t294 = true then (laws_eqPointS.l0 k x0 x1 (wrap64 (x5 + 1))) else (some false))) else (none)) else (none)) else (some true)
def laws_eqPointS.f (k : Nat) (l0 : List (S37)) (l1 : List (S37)) : Option (Bool) := if (l0.length : Int) = (l1.length : Int) then (laws_eqPointS.l0 k l0 l1 0) else (some false)
theorem laws_eqPointS.mono_l : ∀ k, (∀ y0 y1 y2, LeO (laws_eqPointS.l0 k y0 y1 y2) (laws_eqPointS.l0 (k + 1) y0 y1 y2))
 | 0 => fun _ _ _ r h => by simp [laws_eqPointS.l0] at h
 | k + 1 => by
  have ih0 := laws_eqPointS.mono_l k
  · intro y0 y1 y2
    unfold laws_eqPointS.l0
    repeat' first
    | (with_reducible exact ih0 _ _ _)
    | (with_reducible exact LeO.refl _)
    | (with_reducible exact LeO.none _)
    | (with_reducible refine LeO.ite ?_ ?_)
    | (with_reducible refine LeO.bind ?_ (fun _ => ?_))
    | exact ih0 _ _ _
    | exact LeO.none _
    | refine LeO.ite ?_ ?_
    | refine LeO.bind ?_ (fun _ => ?_)
theorem laws_eqPointS.mono : ∀ a0 a1 k, LeO (laws_eqPointS.f k a0 a1) (laws_eqPointS.f (k + 1) a0 a1) := by
 intro a0 a1 k
 have ih0 := laws_eqPointS.mono_l k
 unfold laws_eqPointS.f
 repeat' first
  | (with_reducible exact ih0 _ _ _)
  | (with_reducible exact LeO.refl _)
  | (with_reducible exact LeO.none _)
  | (with_reducible refine LeO.ite ?_ ?_)
  | (with_reducible refine LeO.bind ?_ (fun _ => ?_))
  | exact ih0 _ _ _
  | exact LeO.none _
  | refine LeO.ite ?_ ?_
  | refine LeO.bind ?_ (fun _ => ?_)
def laws_eqPointS.T6 : Bool × List (List Nat × List Nat) := (true, [([], []), ([], []), ([0, 1], [0, 1]), ([2], [2]), ([], []), ([], []), ([4, 5], [4, 5]), ([6], [6]), ([3, 7], [3, 7]), ([8], [8])])
def laws_eqPointS.B6 : List Nat := [0, 0, 3, 7, 0, 0, 48, 112, 255, 511]
theorem laws_eqPointS.tab6 : rtab .any (opsOf Try.f136 6) = laws_eqPointS.T6 := by kernel_rfl
theorem laws_eqPointS.bits6 : waitsOk laws_eqPointS.T6.2 laws_eqPointS.B6 = true := by kernel_rfl
set_option maxHeartbeats 8000000 in
set_option maxRecDepth 100000 in
theorem laws_eqPointS.calls (k : Nat) (A0 : Option Addr) (c0 : Nat) (l0 : List (S37)) (A1 : Option Addr) (c1 : Nat) (l1 : List (S37)) (r : Bool) (w : World) (hr0 : Kd.C k37 w A0 l0.length l0) (hc0 : l0.length ≤ c0) (hr1 : Kd.C k37 w A1 l1.length l1) (hc1 : l1.length ≤ c1) (h : laws_eqPointS.f k l0 l1 = some r) :
 Calls Try.prog 136 #[.slice A0 l0.length c0, .slice A1 l1.length c1] w fun e w' => e = .returned (.bool r) ∧ Below w.heap.size w w' := by
 have hu37 := Try.underlying37
 have HR0 := Aside0.mk hr0
 have HC0 := Aside0.mk hc0
 clear hr0 hc0
 have HR1 := Aside0.mk hr1
 have HC1 := Aside0.mk hc1
 clear hr1 hc1
 have HB := Aside0.mk (Below.refl w.heap.size w)
 have H : (if (l0.length : Int) = (l1.length : Int) then (laws_eqPointS.l0 k l0 l1 0) else (some false)) = some r := h
 clear h
 by_cases c3 : (l0.length : Int) = (l1.length : Int)
 · rw [if_pos c3] at H
   have c3b0 : ((l0.length : Int) == (l1.length : Int)) = true := beq_iff_eq.mpr c3
   have c3b1 : ((l0.length : Int) != (l1.length : Int)) = false := bne_eq_false_iff_eq.mpr c3
   have c3b2 : (l0.length == l1.length) = true := by first | simpa using c3 | (simp at c3 ⊢; omega)
   clear c3
   have H' := Aside0.mk H
   clear H
   go_enter Try.func136, Try.ntmps136
   go_wp2
   go_loopg [5] k (fun kq v5 w' => ∃ (x5_1 : Int), v5 = .int .i64 x5_1 ∧ Aside0 (laws_eqPointS.l0 kq l0 l1 x5_1 = some r) ∧ Aside0 (kq ≤ k) ∧ Aside0 (Below w.heap.size w w'))
   case atStart => exact ⟨(0), es, H', ⟨Nat.le_refl _⟩, ⟨bl⟩⟩
   case round =>
    clear H'
    try clear c1
    try clear p2
    try clear c3
    try clear c3b0
    try clear c3b1
    try clear c3b2
    obtain ⟨x5_1, rfl, HA, HK1, HB⟩ := hrel
    cases gk with
    | zero => exact absurd HA.out (by simp [laws_eqPointS.l0])
    | succ k1 =>
     have H := HA.out
     clear HA
     simp only [laws_eqPointS.l0] at H
     by_cases c4 : x5_1 < (l0.length : Int)
     · rw [if_pos c4] at H
       have c4b0 : decide (x5_1 < (l0.length : Int)) = true := decide_eq_true c4
       clear c4
       by_cases c5 : 0 ≤ x5_1
       · rw [if_pos c5] at H
         have c5b0 : decide (0 ≤ x5_1) = true := decide_eq_true c5
         clear c5
         by_cases c6 : x5_1 < (l1.length : Int)
         · rw [if_pos c6] at H
           have c6b0 : decide (x5_1 < (l1.length : Int)) = true := decide_eq_true c6
           clear c6
           obtain ⟨t294, A70, H⟩ := bo H
           have A7 := Aside0.mk A70
           clear A70
           by_cases c8 : t294 = true
           · subst c8
             replace H := iT H
             have H' := Aside0.mk H
             clear H
             try go_wp2
             replace HB := ak (below_drew1 HB.out)
             have p292 : 0 ≤ (x5_1 : Int) := of_decide_eq_true am
             have q292 : x5_1 < (l0.length : Int) := of_decide_eq_true am
             obtain ⟨ad292, e292, hx292_0, hx292_1⟩ := at_T37 HR0.out x5_1 p292 q292
             have hw292_1 := hx292_1
             have hw292_0 := hx292_0
             cases e292
             replace hx292_0 := cw hx292_0
             replace hx292_1 := cw hx292_1
             replace p292 := eq_true p292
             replace q292 := eq_true q292
             have p293 : 0 ≤ (x5_1 : Int) := of_decide_eq_true am
             have q293 : x5_1 < (l1.length : Int) := of_decide_eq_true am
             obtain ⟨ad293, e293, hx293_0, hx293_1⟩ := at_T37 HR1.out x5_1 p293 q293
             have hw293_1 := hx293_1
             have hw293_0 := hx293_0
             cases e293
             replace hx293_0 := cw hx293_0
             replace hx293_1 := cw hx293_1
             replace p293 := eq_true p293
             replace q293 := eq_true q293
             refine start_ (n := 10) (S := fun w' => w'.cell? (ad292.add ((x5_1).toNat * 2)) = some (.int .i64 ((rd_T37 l0 x5_1).f0)) ∧ w'.cell? ⟨(ad292.add ((x5_1).toNat * 2)).block, (ad292.add ((x5_1).toNat * 2)).off + 1, none⟩ = some (.int .i64 ((rd_T37 l0 x5_1).f1)) ∧ w'.cell? (ad293.add ((x5_1).toNat * 2)) = some (.int .i64 ((rd_T37 l1 x5_1).f0)) ∧ w'.cell? ⟨(ad293.add ((x5_1).toNat * 2)).block, (ad293.add ((x5_1).toNat * 2)).off + 1, none⟩ = some (.int .i64 ((rd_T37 l1 x5_1).f1))) (ds := []) (bitsA 10 0) (by kernel_rfl) rfl rfl ⟨(cw hw292_0), (cw hw292_1), (cw hw293_0), (cw hw293_1)⟩ (fun hHeld => ?_); refine with_tabW laws_eqPointS.tab6 laws_eqPointS.bits6 (fun HT_ HW_ => ?_)
             generalize wr.drew = w9 at HB hx292_0 hx292_1 hx293_0 hx293_1 hHeld ⊢
             refine pu 0 (some 17) (bitsA 10 1) ?_
             refine pu 1 (some 18) (bitsA 10 3) ?_
             refine pu 2 (some 19) (bitsA 10 7) ?_
             refine tk 3 (some 20) (bitsA 10 15) hHeld ?_ (hy := Or.inl ⟨by rfl, by rintro w' ⟨s0, s1, s2, s3⟩; go_simp; with_reducible rfl⟩)
             refine pu 4 (some 21) (bitsA 10 31) ?_
             refine pu 5 (some 22) (bitsA 10 63) ?_
             refine pu 6 (some 23) (bitsA 10 127) ?_
             refine tk 7 (some 24) (bitsA 10 255) hHeld ?_ (hy := Or.inl ⟨by rfl, by rintro w' ⟨s0, s1, s2, s3⟩; go_simp; with_reducible rfl⟩)
             refine one_ (i := 8) (N := some 25) (bitsA 10 511) rfl rfl (one_of HT_.out (by kernel_rfl)) (by decide) (fun K hK => ?_)
             refine goes_ Try.func181 (by kernel_rfl) rfl #[.agg #[.int .i64 ((rd_T37 l0 x5_1).f0), .int .i64 ((rd_T37 l0 x5_1).f1)], .agg #[.int .i64 ((rd_T37 l1 x5_1).f0), .int .i64 ((rd_T37 l1 x5_1).f1)]] (by rfl) rfl rfl mt ?_
             with_reducible refine (laws_eqPoint.calls ((rd_T37 l0 x5_1).f0) ((rd_T37 l0 x5_1).f1) ((rd_T37 l1 x5_1).f0) ((rd_T37 l1 x5_1).f1) true _ A7.out).mono ?_
             rintro e w10 ⟨rfl, hb⟩
             refine ⟨_, rfl, ?_⟩
             replace HB := ak (below_step bl hb)
             (try clear hb)
             (try clear hb2)
             (try clear hk)
             (try clear hi)
             refine hK.out _ _ ⟨(cw hw292_0), (cw hw292_1), (cw hw293_0), (cw hw293_1)⟩ (fun hHeld => ?_)
             clear hK K
             refine nm ?_
             refine pu 9 (some 26) (bitsA 10 1023) ?_
             refine done_ (done_of HT_.out (by kernel_rfl)) ?_
             try go_wp2
             go_roundg k1
             case measure => have := HK1.out; omega
             case rel => exact ⟨(wrap64 (x5_1 + 1)), es, H', ⟨kp⟩, ⟨bl⟩⟩
           · replace c8 := Bool.eq_false_iff.mpr c8
             subst c8
             replace H := iF H
             obtain rfl := Option.some.inj H
             try go_wp2
             replace HB := ak (below_drew1 HB.out)
             have p292 : 0 ≤ (x5_1 : Int) := of_decide_eq_true am
             have q292 : x5_1 < (l0.length : Int) := of_decide_eq_true am
             obtain ⟨ad292, e292, hx292_0, hx292_1⟩ := at_T37 HR0.out x5_1 p292 q292
             have hw292_1 := hx292_1
             have hw292_0 := hx292_0
             cases e292
             replace hx292_0 := cw hx292_0
             replace hx292_1 := cw hx292_1
             replace p292 := eq_true p292
             replace q292 := eq_true q292
             have p293 : 0 ≤ (x5_1 : Int) := of_decide_eq_true am
             have q293 : x5_1 < (l1.length : Int) := of_decide_eq_true am
             obtain ⟨ad293, e293, hx293_0, hx293_1⟩ := at_T37 HR1.out x5_1 p293 q293
             have hw293_1 := hx293_1
             have hw293_0 := hx293_0
             cases e293
             replace hx293_0 := cw hx293_0
             replace hx293_1 := cw hx293_1
             replace p293 := eq_true p293
             replace q293 := eq_true q293
             refine start_ (n := 10) (S := fun w' => w'.cell? (ad292.add ((x5_1).toNat * 2)) = some (.int .i64 ((rd_T37 l0 x5_1).f0)) ∧ w'.cell? ⟨(ad292.add ((x5_1).toNat * 2)).block, (ad292.add ((x5_1).toNat * 2)).off + 1, none⟩ = some (.int .i64 ((rd_T37 l0 x5_1).f1)) ∧ w'.cell? (ad293.add ((x5_1).toNat * 2)) = some (.int .i64 ((rd_T37 l1 x5_1).f0)) ∧ w'.cell? ⟨(ad293.add ((x5_1).toNat * 2)).block, (ad293.add ((x5_1).toNat * 2)).off + 1, none⟩ = some (.int .i64 ((rd_T37 l1 x5_1).f1))) (ds := []) (bitsA 10 0) (by kernel_rfl) rfl rfl ⟨(cw hw292_0), (cw hw292_1), (cw hw293_0), (cw hw293_1)⟩ (fun hHeld => ?_); refine with_tabW laws_eqPointS.tab6 laws_eqPointS.bits6 (fun HT_ HW_ => ?_)
             generalize wr.drew = w11 at HB hx292_0 hx292_1 hx293_0 hx293_1 hHeld ⊢
             refine pu 0 (some 17) (bitsA 10 1) ?_
             refine pu 1 (some 18) (bitsA 10 3) ?_
             refine pu 2 (some 19) (bitsA 10 7) ?_
             refine tk 3 (some 20) (bitsA 10 15) hHeld ?_ (hy := Or.inl ⟨by rfl, by rintro w' ⟨s0, s1, s2, s3⟩; go_simp; with_reducible rfl⟩)
             refine pu 4 (some 21) (bitsA 10 31) ?_
             refine pu 5 (some 22) (bitsA 10 63) ?_
             refine pu 6 (some 23) (bitsA 10 127) ?_
             refine tk 7 (some 24) (bitsA 10 255) hHeld ?_ (hy := Or.inl ⟨by rfl, by rintro w' ⟨s0, s1, s2, s3⟩; go_simp; with_reducible rfl⟩)
             refine one_ (i := 8) (N := some 25) (bitsA 10 511) rfl rfl (one_of HT_.out (by kernel_rfl)) (by decide) (fun K hK => ?_)
             refine goes_ Try.func181 (by kernel_rfl) rfl #[.agg #[.int .i64 ((rd_T37 l0 x5_1).f0), .int .i64 ((rd_T37 l0 x5_1).f1)], .agg #[.int .i64 ((rd_T37 l1 x5_1).f0), .int .i64 ((rd_T37 l1 x5_1).f1)]] (by rfl) rfl rfl mt ?_
             with_reducible refine (laws_eqPoint.calls ((rd_T37 l0 x5_1).f0) ((rd_T37 l0 x5_1).f1) ((rd_T37 l1 x5_1).f0) ((rd_T37 l1 x5_1).f1) false _ A7.out).mono ?_
             rintro e w12 ⟨rfl, hb⟩
             refine ⟨_, rfl, ?_⟩
             replace HB := ak (below_step bl hb)
             (try clear hb)
             (try clear hb2)
             (try clear hk)
             (try clear hi)
             refine hK.out _ _ ⟨(cw hw292_0), (cw hw292_1), (cw hw293_0), (cw hw293_1)⟩ (fun hHeld => ?_)
             clear hK K
             refine nm ?_
             refine pu 9 (some 26) (bitsA 10 1023) ?_
             refine done_ (done_of HT_.out (by kernel_rfl)) ?_
             try go_wp2
             go_ret
             exact ⟨ew, bl⟩
         · rw [if_neg c6] at H
           exact absurd H (by simp)
       · rw [if_neg c5] at H
         exact absurd H (by simp)
     · rw [if_neg c4] at H
       have c4b0 : decide (x5_1 < (l0.length : Int)) = false := decide_eq_false c4
       clear c4
       obtain rfl := Option.some.inj H
       go_wp2
       go_ret
       exact ⟨ew, bl⟩
 · rw [if_neg c3] at H
   have c3b0 : ((l0.length : Int) == (l1.length : Int)) = false := beq_eq_false_iff_ne.mpr c3
   have c3b1 : ((l0.length : Int) != (l1.length : Int)) = true := bne_iff_ne.mpr c3
   have c3b2 : (l0.length == l1.length) = false := by first | simpa using c3 | (simp at c3 ⊢; omega)
   obtain rfl := Option.some.inj H
   go_enter Try.func136, Try.ntmps136
   go_wp2
   go_ret
   exact ⟨ew, bl⟩

end Go.Proofs.Ytplekidnlofioaa.Q
namespace Go.Proofs.Ytplekidnlofioaa.Q
open Go.RowKit Go.Proofs.YtplekidnlofioaaW.PrintWords Go.Proofs.YtplekidnlofioaaW.PrintLast Go.Proofs.YtplekidnlofioaaW.PrintMore
attribute [local go_sem] max2_int min2_int max_two min_two max_three min_three max_four min_four   -- for this text's walks alone
set_option linter.unusedVariables false
set_option linter.unusedSimpArgs false

/-! ### laws_eqSeries: function 81 -/
def laws_eqSeries.f (k : Nat) (a0_0 : ByteArray) (a0_1 : ByteArray) (l0_2 : List (S37)) (a1_0 : ByteArray) (a1_1 : ByteArray) (l1_2 : List (S37)) : Option (Bool) := if a0_0.toList = a1_0.toList then (if a0_1.toList = a1_1.toList then ((laws_eqPointS.f k l0_2 l1_2).bind fun t297 => (if t297 = true then (some true) else (some false))) else (some false)) else (some false)
theorem laws_eqSeries.mono : ∀ a0 a1 a2 a3 a4 a5 k, LeO (laws_eqSeries.f k a0 a1 a2 a3 a4 a5) (laws_eqSeries.f (k + 1) a0 a1 a2 a3 a4 a5) := by
 intro a0 a1 a2 a3 a4 a5 k
 unfold laws_eqSeries.f
 repeat' first
  | (with_reducible exact laws_eqPointS.mono _ _ _)
  | (with_reducible exact LeO.refl _)
  | (with_reducible exact LeO.none _)
  | (with_reducible refine LeO.ite ?_ ?_)
  | (with_reducible refine LeO.bind ?_ (fun _ => ?_))
  | exact laws_eqPointS.mono _ _ _
  | exact LeO.none _
  | refine LeO.ite ?_ ?_
  | refine LeO.bind ?_ (fun _ => ?_)
set_option maxHeartbeats 8000000 in
set_option maxRecDepth 100000 in
theorem laws_eqSeries.calls (k : Nat) (a0_0 : ByteArray) (a0_1 : ByteArray) (A0_2 : Option Addr) (c0_2 : Nat) (l0_2 : List (S37)) (a1_0 : ByteArray) (a1_1 : ByteArray) (A1_2 : Option Addr) (c1_2 : Nat) (l1_2 : List (S37)) (r : Bool) (w : World) (hr0_2 : Kd.C k37 w A0_2 l0_2.length l0_2) (hc0_2 : l0_2.length ≤ c0_2) (hr1_2 : Kd.C k37 w A1_2 l1_2.length l1_2) (hc1_2 : l1_2.length ≤ c1_2) (h : laws_eqSeries.f k a0_0 a0_1 l0_2 a1_0 a1_1 l1_2 = some r) :
 Calls Try.prog 81 #[.agg #[.string a0_0, .string a0_1, .slice A0_2 l0_2.length c0_2], .agg #[.string a1_0, .string a1_1, .slice A1_2 l1_2.length c1_2]] w fun e w' => e = .returned (.bool r) ∧ Below w.heap.size w w' := by
 have hu81 := Try.underlying81
 have HR0_2 := Aside0.mk hr0_2
 have HC0_2 := Aside0.mk hc0_2
 clear hr0_2 hc0_2
 have HR1_2 := Aside0.mk hr1_2
 have HC1_2 := Aside0.mk hc1_2
 clear hr1_2 hc1_2
 have HB := Aside0.mk (Below.refl w.heap.size w)
 have H : (if a0_0.toList = a1_0.toList then (if a0_1.toList = a1_1.toList then ((laws_eqPointS.f k l0_2 l1_2).bind fun t297 => (if t297 = true then (some true) else (some false))) else (some false)) else (some false)) = some r := h
 clear h
 by_cases c3 : a0_0.toList = a1_0.toList
 · rw [if_pos c3] at H
   have c3b0 : (a0_0.toList == a1_0.toList) = true := beq_iff_eq.mpr c3
   have c3b1 : (a0_0.toList != a1_0.toList) = false := bne_eq_false_iff_eq.mpr c3
   clear c3
   by_cases c4 : a0_1.toList = a1_1.toList
   · rw [if_pos c4] at H
     have c4b0 : (a0_1.toList == a1_1.toList) = true := beq_iff_eq.mpr c4
     have c4b1 : (a0_1.toList != a1_1.toList) = false := bne_eq_false_iff_eq.mpr c4
     clear c4
     obtain ⟨t297, A50, H⟩ := bo H
     have A5 := Aside0.mk A50
     clear A50
     by_cases c6 : t297 = true
     · subst c6
       replace H := iT H
       obtain rfl := Option.some.inj H
       go_enter Try.func81, Try.ntmps81
       go_wp2_with (first | ((with_reducible refine gate_dst (N := 2) rfl ?_); refine bx 2 #[.string a0_0, .string a0_1, .slice A0_2 l0_2.length c0_2] 81 ?_; intro gb295 hg w7 hbox hb; have BK295 := ak hbox; have GW295 := gs hg bl; have GE295 := gs hg bl; replace HB := ak (below_step bl hb); clear hb hbox hg) | ((with_reducible refine gate_dst (N := 3) rfl ?_); refine bx 3 #[.string a1_0, .string a1_1, .slice A1_2 l1_2.length c1_2] 81 ?_; intro gb296 hg w8 hbox hb; have BK296 := ak hbox; have GW296 := gs hg (bl1 GE295); have GE296 := gs hg (bl1 GE295); replace HB := ak (below_step (bl1 GE295) hb); have NB295_296 := nl hg BK295; have NB296_295 := ng hg BK295; replace BK295 := bb BK295 hb; clear hb hbox hg; have hnb9 := NB295_296.out; have hnc9 := NB296_295.out; obtain ⟨hcz10_0, hcz10_1, hcz10_2, hfz10_0, hfz10_1, hfz10_2⟩ := cz3 BK295; obtain ⟨hcz11_0, hcz11_1, hcz11_2, hfz11_0, hfz11_1, hfz11_2⟩ := cz3 BK296) | ((with_reducible refine gate_callee (f := 136) rfl ?_); refine gl (some 19) Try.func136 #[.slice A0_2 l0_2.length c0_2, .slice A1_2 l1_2.length c1_2] ?_; (with_reducible refine (laws_eqPointS.calls k _ _ l0_2 _ _ l1_2 true _ ?side1 ?side2 ?side3 ?side4 A5.out).mono ?_); (case side1 => exact cb HR0_2); (case side2 => exact HC0_2.out); (case side3 => exact cb HR1_2); (case side4 => exact HC1_2.out); rintro e w12 ⟨rfl, hb⟩; refine ⟨_, rfl, ?_⟩; replace BK295 := bb BK295 hb; replace BK296 := bb BK296 hb; replace HB := ak (below_step (bl2 GE295 GE296) hb); (try clear hb); (try clear hb2); (try clear hk); (try clear hi)))
       go_ret
       exact ⟨ew, bl2 GE295 GE296⟩
     · replace c6 := Bool.eq_false_iff.mpr c6
       subst c6
       replace H := iF H
       obtain rfl := Option.some.inj H
       go_enter Try.func81, Try.ntmps81
       go_wp2_with (first | ((with_reducible refine gate_dst (N := 2) rfl ?_); refine bx 2 #[.string a0_0, .string a0_1, .slice A0_2 l0_2.length c0_2] 81 ?_; intro gb295 hg w13 hbox hb; have BK295 := ak hbox; have GW295 := gs hg bl; have GE295 := gs hg bl; replace HB := ak (below_step bl hb); clear hb hbox hg) | ((with_reducible refine gate_dst (N := 3) rfl ?_); refine bx 3 #[.string a1_0, .string a1_1, .slice A1_2 l1_2.length c1_2] 81 ?_; intro gb296 hg w14 hbox hb; have BK296 := ak hbox; have GW296 := gs hg (bl1 GE295); have GE296 := gs hg (bl1 GE295); replace HB := ak (below_step (bl1 GE295) hb); have NB295_296 := nl hg BK295; have NB296_295 := ng hg BK295; replace BK295 := bb BK295 hb; clear hb hbox hg; have hnb15 := NB295_296.out; have hnc15 := NB296_295.out; obtain ⟨hcz16_0, hcz16_1, hcz16_2, hfz16_0, hfz16_1, hfz16_2⟩ := cz3 BK295; obtain ⟨hcz17_0, hcz17_1, hcz17_2, hfz17_0, hfz17_1, hfz17_2⟩ := cz3 BK296) | ((with_reducible refine gate_callee (f := 136) rfl ?_); refine gl (some 19) Try.func136 #[.slice A0_2 l0_2.length c0_2, .slice A1_2 l1_2.length c1_2] ?_; (with_reducible refine (laws_eqPointS.calls k _ _ l0_2 _ _ l1_2 false _ ?side1 ?side2 ?side3 ?side4 A5.out).mono ?_); (case side1 => exact cb HR0_2); (case side2 => exact HC0_2.out); (case side3 => exact cb HR1_2); (case side4 => exact HC1_2.out); rintro e w18 ⟨rfl, hb⟩; refine ⟨_, rfl, ?_⟩; replace BK295 := bb BK295 hb; replace BK296 := bb BK296 hb; replace HB := ak (below_step (bl2 GE295 GE296) hb); (try clear hb); (try clear hb2); (try clear hk); (try clear hi)))
       go_ret
       exact ⟨ew, bl2 GE295 GE296⟩
   · rw [if_neg c4] at H
     have c4b0 : (a0_1.toList == a1_1.toList) = false := beq_eq_false_iff_ne.mpr c4
     have c4b1 : (a0_1.toList != a1_1.toList) = true := bne_iff_ne.mpr c4
     obtain rfl := Option.some.inj H
     go_enter Try.func81, Try.ntmps81
     go_wp2_with (first | ((with_reducible refine gate_dst (N := 2) rfl ?_); refine bx 2 #[.string a0_0, .string a0_1, .slice A0_2 l0_2.length c0_2] 81 ?_; intro gb295 hg w19 hbox hb; have BK295 := ak hbox; have GW295 := gs hg bl; have GE295 := gs hg bl; replace HB := ak (below_step bl hb); clear hb hbox hg) | ((with_reducible refine gate_dst (N := 3) rfl ?_); refine bx 3 #[.string a1_0, .string a1_1, .slice A1_2 l1_2.length c1_2] 81 ?_; intro gb296 hg w20 hbox hb; have BK296 := ak hbox; have GW296 := gs hg (bl1 GE295); have GE296 := gs hg (bl1 GE295); replace HB := ak (below_step (bl1 GE295) hb); have NB295_296 := nl hg BK295; have NB296_295 := ng hg BK295; replace BK295 := bb BK295 hb; clear hb hbox hg; have hnb21 := NB295_296.out; have hnc21 := NB296_295.out; obtain ⟨hcz22_0, hcz22_1, hcz22_2, hfz22_0, hfz22_1, hfz22_2⟩ := cz3 BK295; obtain ⟨hcz23_0, hcz23_1, hcz23_2, hfz23_0, hfz23_1, hfz23_2⟩ := cz3 BK296))
     go_ret
     exact ⟨ew, bl2 GE295 GE296⟩
 · rw [if_neg c3] at H
   have c3b0 : (a0_0.toList == a1_0.toList) = false := beq_eq_false_iff_ne.mpr c3
   have c3b1 : (a0_0.toList != a1_0.toList) = true := bne_iff_ne.mpr c3
   obtain rfl := Option.some.inj H
   go_enter Try.func81, Try.ntmps81
   go_wp2_with (first | ((with_reducible refine gate_dst (N := 2) rfl ?_); refine bx 2 #[.string a0_0, .string a0_1, .slice A0_2 l0_2.length c0_2] 81 ?_; intro gb295 hg w24 hbox hb; have BK295 := ak hbox; have GW295 := gs hg bl; have GE295 := gs hg bl; replace HB := ak (below_step bl hb); clear hb hbox hg) | ((with_reducible refine gate_dst (N := 3) rfl ?_); refine bx 3 #[.string a1_0, .string a1_1, .slice A1_2 l1_2.length c1_2] 81 ?_; intro gb296 hg w25 hbox hb; have BK296 := ak hbox; have GW296 := gs hg (bl1 GE295); have GE296 := gs hg (bl1 GE295); replace HB := ak (below_step (bl1 GE295) hb); have NB295_296 := nl hg BK295; have NB296_295 := ng hg BK295; replace BK295 := bb BK295 hb; clear hb hbox hg; have hnb26 := NB295_296.out; have hnc26 := NB296_295.out; obtain ⟨hcz27_0, hcz27_1, hcz27_2, hfz27_0, hfz27_1, hfz27_2⟩ := cz3 BK295; obtain ⟨hcz28_0, hcz28_1, hcz28_2, hfz28_0, hfz28_1, hfz28_2⟩ := cz3 BK296))
   go_ret
   exact ⟨ew, bl2 GE295 GE296⟩

end Go.Proofs.Ytplekidnlofioaa.Q
namespace Go.Proofs.Ytplekidnlofioaa.Q
open Go.RowKit Go.Proofs.YtplekidnlofioaaW.PrintWords Go.Proofs.YtplekidnlofioaaW.PrintLast Go.Proofs.YtplekidnlofioaaW.PrintMore
attribute [local go_sem] max2_int min2_int max_two min_two max_three min_three max_four min_four   -- for this text's walks alone
set_option linter.unusedVariables false
set_option linter.unusedSimpArgs false

/-! ### laws_eqSeriesS: function 24 -/
def laws_eqSeriesS.l0 : Nat → List (S81) → List (S81) → Int → Option (Bool)
 | 0, _, _, _ => none
 | k + 1, x0, x1, x5 => if x5 < (x0.length : Int) then (if 0 ≤ x5 then (if x5 < (x1.length : Int) then ((laws_eqSeries.f k ((rd_T81 x0 x5).f0) ((rd_T81 x0 x5).f1) ((rd_T81 x0 x5).f2) ((rd_T81 x1 x5).f0) ((rd_T81 x1 x5).f1) ((rd_T81 x1 x5).f2)).bind fun t300 => (if t300 = true then (laws_eqSeriesS.l0 k x0 x1 (wrap64 (x5 + 1))) else (some false))) else (none)) else (none)) else (some true)
def laws_eqSeriesS.f (k : Nat) (l0 : List (S81)) (l1 : List (S81)) : Option (Bool) := if (l0.length : Int) = (l1.length : Int) then (laws_eqSeriesS.l0 k l0 l1 0) else (some false)
theorem laws_eqSeriesS.mono_l : ∀ k, (∀ y0 y1 y2, LeO (laws_eqSeriesS.l0 k y0 y1 y2) (laws_eqSeriesS.l0 (k + 1) y0 y1 y2))
 | 0 => fun _ _ _ r h => by simp [laws_eqSeriesS.l0] at h
 | k + 1 => by
  have ih0 := laws_eqSeriesS.mono_l k
  · intro y0 y1 y2
    unfold laws_eqSeriesS.l0
    repeat' first
    | (with_reducible exact ih0 _ _ _)
    | (with_reducible exact laws_eqSeries.mono _ _ _ _ _ _ _)
    | (with_reducible exact LeO.refl _)
    | (with_reducible exact LeO.none _)
    | (with_reducible refine LeO.ite ?_ ?_)
    | (with_reducible refine LeO.bind ?_ (fun _ => ?_))
    | exact ih0 _ _ _
    | exact laws_eqSeries.mono _ _ _ _ _ _ _
    | exact LeO.none _
    | refine LeO.ite ?_ ?_
    | refine LeO.bind ?_ (fun _ => ?_)
theorem laws_eqSeriesS.mono : ∀ a0 a1 k, LeO (laws_eqSeriesS.f k a0 a1) (laws_eqSeriesS.f (k + 1) a0 a1) := by
 intro a0 a1 k
 have ih0 := laws_eqSeriesS.mono_l k
 unfold laws_eqSeriesS.f
 repeat' first
  | (with_reducible exact ih0 _ _ _)
  | (with_reducible exact laws_eqSeries.mono _ _ _ _ _ _ _)
  | (with_reducible exact LeO.refl _)
  | (with_reducible exact LeO.none _)
  | (with_reducible refine LeO.ite ?_ ?_)
  | (with_reducible refine LeO.bind ?_ (fun _ => ?_))
  | exact ih0 _ _ _
  | exact laws_eqSeries.mono _ _ _ _ _ _ _
  | exact LeO.none _
  | refine LeO.ite ?_ ?_
  | refine LeO.bind ?_ (fun _ => ?_)
def laws_eqSeriesS.T6 : Bool × List (List Nat × List Nat) := (true, [([], []), ([], []), ([0, 1], [0, 1]), ([2], [2]), ([], []), ([], []), ([4, 5], [4, 5]), ([6], [6]), ([3, 7], [3, 7]), ([8], [8])])
def laws_eqSeriesS.B6 : List Nat := [0, 0, 3, 7, 0, 0, 48, 112, 255, 511]
theorem laws_eqSeriesS.tab6 : rtab .any (opsOf Try.f24 6) = laws_eqSeriesS.T6 := by kernel_rfl
theorem laws_eqSeriesS.bits6 : waitsOk laws_eqSeriesS.T6.2 laws_eqSeriesS.B6 = true := by kernel_rfl
set_option maxHeartbeats 8000000 in
set_option maxRecDepth 100000 in
theorem laws_eqSeriesS.calls (k : Nat) (A0 : Option Addr) (c0 : Nat) (l0 : List (S81)) (A1 : Option Addr) (c1 : Nat) (l1 : List (S81)) (r : Bool) (w : World) (hr0 : Kd.C k81 w A0 l0.length l0) (hc0 : l0.length ≤ c0) (hr1 : Kd.C k81 w A1 l1.length l1) (hc1 : l1.length ≤ c1) (h : laws_eqSeriesS.f k l0 l1 = some r) :
 Calls Try.prog 24 #[.slice A0 l0.length c0, .slice A1 l1.length c1] w fun e w' => e = .returned (.bool r) ∧ Below w.heap.size w w' := by
 have hu81 := Try.underlying81
 have HR0 := Aside0.mk hr0
 have HC0 := Aside0.mk hc0
 clear hr0 hc0
 have HR1 := Aside0.mk hr1
 have HC1 := Aside0.mk hc1
 clear hr1 hc1
 have HB := Aside0.mk (Below.refl w.heap.size w)
 have H : (if (l0.length : Int) = (l1.length : Int) then (laws_eqSeriesS.l0 k l0 l1 0) else (some false)) = some r := h
 clear h
 by_cases c3 : (l0.length : Int) = (l1.length : Int)
 · rw [if_pos c3] at H
   have c3b0 : ((l0.length : Int) == (l1.length : Int)) = true := beq_iff_eq.mpr c3
   have c3b1 : ((l0.length : Int) != (l1.length : Int)) = false := bne_eq_false_iff_eq.mpr c3
   have c3b2 : (l0.length == l1.length) = true := by first | simpa using c3 | (simp at c3 ⊢; omega)
   clear c3
   have H' := Aside0.mk H
   clear H
   go_enter Try.func24, Try.ntmps24
   go_wp2
   go_loopg [5] k (fun kq v5 w' => ∃ (x5_1 : Int), v5 = .int .i64 x5_1 ∧ Aside0 (laws_eqSeriesS.l0 kq l0 l1 x5_1 = some r) ∧ Aside0 (kq ≤ k) ∧ Aside0 (Below w.heap.size w w'))
   case atStart => exact ⟨(0), es, H', ⟨Nat.le_refl _⟩, ⟨bl⟩⟩
   case round =>
    clear H'
    try clear c1
    try clear c2
    try clear p2
    try clear c3
    try clear c3b0
    try clear c3b1
    try clear c3b2
    obtain ⟨x5_1, rfl, HA, HK1, HB⟩ := hrel
    cases gk with
    | zero => exact absurd HA.out (by simp [laws_eqSeriesS.l0])
    | succ k1 =>
     have H := HA.out
     clear HA
     simp only [laws_eqSeriesS.l0] at H
     by_cases c4 : x5_1 < (l0.length : Int)
     · rw [if_pos c4] at H
       have c4b0 : decide (x5_1 < (l0.length : Int)) = true := decide_eq_true c4
       clear c4
       by_cases c5 : 0 ≤ x5_1
       · rw [if_pos c5] at H
         have c5b0 : decide (0 ≤ x5_1) = true := decide_eq_true c5
         clear c5
         by_cases c6 : x5_1 < (l1.length : Int)
         · rw [if_pos c6] at H
           have c6b0 : decide (x5_1 < (l1.length : Int)) = true := decide_eq_true c6
           clear c6
           obtain ⟨t300, A70, H⟩ := bo H
           have A7 := Aside0.mk A70
           clear A70
           by_cases c8 : t300 = true
           · subst c8
             replace H := iT H
             have H' := Aside0.mk H
             clear H
             try go_wp2
             replace HB := ak (below_drew1 HB.out)
             have p298 : 0 ≤ (x5_1 : Int) := of_decide_eq_true am
             have q298 : x5_1 < (l0.length : Int) := of_decide_eq_true am
             obtain ⟨ad298, A298_2, c298_2, e298, hx298_0, hx298_1, hx298_2, hl298_2, hi298_2⟩ := at_T81 HR0.out x5_1 p298 q298
             have hw298_2 := hx298_2
             have hw298_1 := hx298_1
             have hw298_0 := hx298_0
             cases e298
             replace hx298_0 := cw hx298_0
             replace hx298_1 := cw hx298_1
             replace hx298_2 := cw hx298_2
             have HR298_2 := Aside0.mk hi298_2
             have HC298_2 := Aside0.mk hl298_2
             clear hi298_2 hl298_2
             replace p298 := eq_true p298
             replace q298 := eq_true q298
             have p299 : 0 ≤ (x5_1 : Int) := of_decide_eq_true am
             have q299 : x5_1 < (l1.length : Int) := of_decide_eq_true am
             obtain ⟨ad299, A299_2, c299_2, e299, hx299_0, hx299_1, hx299_2, hl299_2, hi299_2⟩ := at_T81 HR1.out x5_1 p299 q299
             have hw299_2 := hx299_2
             have hw299_1 := hx299_1
             have hw299_0 := hx299_0
             cases e299
             replace hx299_0 := cw hx299_0
             replace hx299_1 := cw hx299_1
             replace hx299_2 := cw hx299_2
             have HR299_2 := Aside0.mk hi299_2
             have HC299_2 := Aside0.mk hl299_2
             clear hi299_2 hl299_2
             replace p299 := eq_true p299
             replace q299 := eq_true q299
             refine start_ (n := 10) (S := fun w' => w'.cell? (ad298.add ((x5_1).toNat * 3)) = some (.string ((rd_T81 l0 x5_1).f0)) ∧ w'.cell? ⟨(ad298.add ((x5_1).toNat * 3)).block, (ad298.add ((x5_1).toNat * 3)).off + 1, none⟩ = some (.string ((rd_T81 l0 x5_1).f1)) ∧ w'.cell? ⟨(ad298.add ((x5_1).toNat * 3)).block, (ad298.add ((x5_1).toNat * 3)).off + 2, none⟩ = some (.slice A298_2 ((rd_T81 l0 x5_1).f2).length c298_2) ∧ w'.cell? (ad299.add ((x5_1).toNat * 3)) = some (.string ((rd_T81 l1 x5_1).f0)) ∧ w'.cell? ⟨(ad299.add ((x5_1).toNat * 3)).block, (ad299.add ((x5_1).toNat * 3)).off + 1, none⟩ = some (.string ((rd_T81 l1 x5_1).f1)) ∧ w'.cell? ⟨(ad299.add ((x5_1).toNat * 3)).block, (ad299.add ((x5_1).toNat * 3)).off + 2, none⟩ = some (.slice A299_2 ((rd_T81 l1 x5_1).f2).length c299_2)) (ds := []) (bitsA 10 0) (by kernel_rfl) rfl rfl ⟨(cw hw298_0), (cw hw298_1), (cw hw298_2), (cw hw299_0), (cw hw299_1), (cw hw299_2)⟩ (fun hHeld => ?_); refine with_tabW laws_eqSeriesS.tab6 laws_eqSeriesS.bits6 (fun HT_ HW_ => ?_)
             generalize wr.drew = w9 at HB HR298_2 HR299_2 hx298_0 hx298_1 hx298_2 hx299_0 hx299_1 hx299_2 hHeld ⊢
             refine pu 0 (some 17) (bitsA 10 1) ?_
             refine pu 1 (some 18) (bitsA 10 3) ?_
             refine pu 2 (some 19) (bitsA 10 7) ?_
             refine tk 3 (some 20) (bitsA 10 15) hHeld ?_ (hy := Or.inl ⟨by rfl, by rintro w' ⟨s0, s1, s2, s3, s4, s5⟩; go_simp; with_reducible rfl⟩)
             refine pu 4 (some 21) (bitsA 10 31) ?_
             refine pu 5 (some 22) (bitsA 10 63) ?_
             refine pu 6 (some 23) (bitsA 10 127) ?_
             refine tk 7 (some 24) (bitsA 10 255) hHeld ?_ (hy := Or.inl ⟨by rfl, by rintro w' ⟨s0, s1, s2, s3, s4, s5⟩; go_simp; with_reducible rfl⟩)
             refine one_ (i := 8) (N := some 25) (bitsA 10 511) rfl rfl (one_of HT_.out (by kernel_rfl)) (by decide) (fun K hK => ?_)
             refine goes_ Try.func81 (by kernel_rfl) rfl #[.agg #[.string ((rd_T81 l0 x5_1).f0), .string ((rd_T81 l0 x5_1).f1), .slice A298_2 ((rd_T81 l0 x5_1).f2).length c298_2], .agg #[.string ((rd_T81 l1 x5_1).f0), .string ((rd_T81 l1 x5_1).f1), .slice A299_2 ((rd_T81 l1 x5_1).f2).length c299_2]] (by rfl) rfl rfl mt ?_
             with_reducible refine (laws_eqSeries.calls k1 ((rd_T81 l0 x5_1).f0) ((rd_T81 l0 x5_1).f1) _ _ ((rd_T81 l0 x5_1).f2) ((rd_T81 l1 x5_1).f0) ((rd_T81 l1 x5_1).f1) _ _ ((rd_T81 l1 x5_1).f2) true _ ?side1 ?side2 ?side3 ?side4 A7.out).mono ?_
             (case side1 => exact cb HR298_2)
             (case side2 => exact HC298_2.out)
             (case side3 => exact cb HR299_2)
             (case side4 => exact HC299_2.out)
             rintro e w10 ⟨rfl, hb⟩
             refine ⟨_, rfl, ?_⟩
             replace HB := ak (below_step bl hb)
             (try clear hb)
             (try clear hb2)
             (try clear hk)
             (try clear hi)
             refine hK.out _ _ ⟨(cw hw298_0), (cw hw298_1), (cw hw298_2), (cw hw299_0), (cw hw299_1), (cw hw299_2)⟩ (fun hHeld => ?_)
             clear hK K
             refine nm ?_
             refine pu 9 (some 26) (bitsA 10 1023) ?_
             refine done_ (done_of HT_.out (by kernel_rfl)) ?_
             try go_wp2
             go_roundg k1
             case measure => have := HK1.out; omega
             case rel => exact ⟨(wrap64 (x5_1 + 1)), es, H', ⟨kp⟩, ⟨bl⟩⟩
           · replace c8 := Bool.eq_false_iff.mpr c8
             subst c8
             replace H := iF H
             obtain rfl := Option.some.inj H
             try go_wp2
             replace HB := ak (below_drew1 HB.out)
             have p298 : 0 ≤ (x5_1 : Int) := of_decide_eq_true am
             have q298 : x5_1 < (l0.length : Int) := of_decide_eq_true am
             obtain ⟨ad298, A298_2, c298_2, e298, hx298_0, hx298_1, hx298_2, hl298_2, hi298_2⟩ := at_T81 HR0.out x5_1 p298 q298
             have hw298_2 := hx298_2
             have hw298_1 := hx298_1
             have hw298_0 := hx298_0
             cases e298
             replace hx298_0 := cw hx298_0
             replace hx298_1 := cw hx298_1
             replace hx298_2 := cw hx298_2
             have HR298_2 := Aside0.mk hi298_2
             have HC298_2 := Aside0.mk hl298_2
             clear hi298_2 hl298_2
             replace p298 := eq_true p298
             replace q298 := eq_true q298
             have p299 : 0 ≤ (x5_1 : Int) := of_decide_eq_true am
             have q299 : x5_1 < (l1.length : Int) := of_decide_eq_true am
             obtain ⟨ad299, A299_2, c299_2, e299, hx299_0, hx299_1, hx299_2, hl299_2, hi299_2⟩ := at_T81 HR1.out x5_1 p299 q299
             have hw299_2 := hx299_2
             have hw299_1 := hx299_1
             have hw299_0 := hx299_0
             cases e299
             replace hx299_0 := cw hx299_0
             replace hx299_1 := cw hx299_1
             replace hx299_2 := cw hx299_2
             have HR299_2 := Aside0.mk hi299_2
             have HC299_2 := Aside0.mk hl299_2
             clear hi299_2 hl299_2
             replace p299 := eq_true p299
             replace q299 := eq_true q299
             refine start_ (n := 10) (S := fun w' => w'.cell? (ad298.add ((x5_1).toNat * 3)) = some (.string ((rd_T81 l0 x5_1).f0)) ∧ w'.cell? ⟨(ad298.add ((x5_1).toNat * 3)).block, (ad298.add ((x5_1).toNat * 3)).off + 1, none⟩ = some (.string ((rd_T81 l0 x5_1).f1)) ∧ w'.cell? ⟨(ad298.add ((x5_1).toNat * 3)).block, (ad298.add ((x5_1).toNat * 3)).off + 2, none⟩ = some (.slice A298_2 ((rd_T81 l0 x5_1).f2).length c298_2) ∧ w'.cell? (ad299.add ((x5_1).toNat * 3)) = some (.string ((rd_T81 l1 x5_1).f0)) ∧ w'.cell? ⟨(ad299.add ((x5_1).toNat * 3)).block, (ad299.add ((x5_1).toNat * 3)).off + 1, none⟩ = some (.string ((rd_T81 l1 x5_1).f1)) ∧ w'.cell? ⟨(ad299.add ((x5_1).toNat * 3)).block, (ad299.add ((x5_1).toNat * 3)).off + 2, none⟩ = some (.slice A299_2 ((rd_T81 l1 x5_1).f2).length c299_2)) (ds := []) (bitsA 10 0) (by kernel_rfl) rfl rfl ⟨(cw hw298_0), (cw hw298_1), (cw hw298_2), (cw hw299_0), (cw hw299_1), (cw hw299_2)⟩ (fun hHeld => ?_); refine with_tabW laws_eqSeriesS.tab6 laws_eqSeriesS.bits6 (fun HT_ HW_ => ?_)
             generalize wr.drew = w11 at HB HR298_2 HR299_2 hx298_0 hx298_1 hx298_2 hx299_0 hx299_1 hx299_2 hHeld ⊢
             refine pu 0 (some 17) (bitsA 10 1) ?_
             refine pu 1 (some 18) (bitsA 10 3) ?_
             refine pu 2 (some 19) (bitsA 10 7) ?_
             refine tk 3 (some 20) (bitsA 10 15) hHeld ?_ (hy := Or.inl ⟨by rfl, by rintro w' ⟨s0, s1, s2, s3, s4, s5⟩; go_simp; with_reducible rfl⟩)
             refine pu 4 (some 21) (bitsA 10 31) ?_
             refine pu 5 (some 22) (bitsA 10 63) ?_
             refine pu 6 (some 23) (bitsA 10 127) ?_
             refine tk 7 (some 24) (bitsA 10 255) hHeld ?_ (hy := Or.inl ⟨by rfl, by rintro w' ⟨s0, s1, s2, s3, s4, s5⟩; go_simp; with_reducible rfl⟩)
             refine one_ (i := 8) (N := some 25) (bitsA 10 511) rfl rfl (one_of HT_.out (by kernel_rfl)) (by decide) (fun K hK => ?_)
             refine goes_ Try.func81 (by kernel_rfl) rfl #[.agg #[.string ((rd_T81 l0 x5_1).f0), .string ((rd_T81 l0 x5_1).f1), .slice A298_2 ((rd_T81 l0 x5_1).f2).length c298_2], .agg #[.string ((rd_T81 l1 x5_1).f0), .string ((rd_T81 l1 x5_1).f1), .slice A299_2 ((rd_T81 l1 x5_1).f2).length c299_2]] (by rfl) rfl rfl mt ?_
             with_reducible refine (laws_eqSeries.calls k1 ((rd_T81 l0 x5_1).f0) ((rd_T81 l0 x5_1).f1) _ _ ((rd_T81 l0 x5_1).f2) ((rd_T81 l1 x5_1).f0) ((rd_T81 l1 x5_1).f1) _ _ ((rd_T81 l1 x5_1).f2) false _ ?side1 ?side2 ?side3 ?side4 A7.out).mono ?_
             (case side1 => exact cb HR298_2)
             (case side2 => exact HC298_2.out)
             (case side3 => exact cb HR299_2)
             (case side4 => exact HC299_2.out)
             rintro e w12 ⟨rfl, hb⟩
             refine ⟨_, rfl, ?_⟩
             replace HB := ak (below_step bl hb)
             (try clear hb)
             (try clear hb2)
             (try clear hk)
             (try clear hi)
             refine hK.out _ _ ⟨(cw hw298_0), (cw hw298_1), (cw hw298_2), (cw hw299_0), (cw hw299_1), (cw hw299_2)⟩ (fun hHeld => ?_)
             clear hK K
             refine nm ?_
             refine pu 9 (some 26) (bitsA 10 1023) ?_
             refine done_ (done_of HT_.out (by kernel_rfl)) ?_
             try go_wp2
             go_ret
             exact ⟨ew, bl⟩
         · rw [if_neg c6] at H
           exact absurd H (by simp)
       · rw [if_neg c5] at H
         exact absurd H (by simp)
     · rw [if_neg c4] at H
       have c4b0 : decide (x5_1 < (l0.length : Int)) = false := decide_eq_false c4
       clear c4
       obtain rfl := Option.some.inj H
       go_wp2
       go_ret
       exact ⟨ew, bl⟩
 · rw [if_neg c3] at H
   have c3b0 : ((l0.length : Int) == (l1.length : Int)) = false := beq_eq_false_iff_ne.mpr c3
   have c3b1 : ((l0.length : Int) != (l1.length : Int)) = true := bne_iff_ne.mpr c3
   have c3b2 : (l0.length == l1.length) = false := by first | simpa using c3 | (simp at c3 ⊢; omega)
   obtain rfl := Option.some.inj H
   go_enter Try.func24, Try.ntmps24
   go_wp2
   go_ret
   exact ⟨ew, bl⟩

end Go.Proofs.Ytplekidnlofioaa.Q
namespace Go.Proofs.Ytplekidnlofioaa.Q
open Go.RowKit Go.Proofs.YtplekidnlofioaaW.PrintWords Go.Proofs.YtplekidnlofioaaW.PrintLast
def cutN (t : Int) : Int := if t < 0 then -1 else t
theorem cutN_neg {t : Int} (h : t < 0) : cutN t = -1 := by simp [cutN, h]
theorem cutN_nn {t : Int} (h : ¬ t < 0) : cutN t = t := by simp [cutN, h]
def wS (s : S137) : Int := s.f0.size + s.f1.size + s.f2.length
def wL : List S137 → Int
  | [] => 0
  | s :: r => wS s + wL r
theorem wS_nn (s : S137) : 0 ≤ wS s := by unfold wS; omega
theorem wL_nn : ∀ l, 0 ≤ wL l
  | [] => by simp [wL]
  | s :: r => by have := wS_nn s; have := wL_nn r; simp only [wL]; omega
def bigS (s : S137) : Prop := s.f0.size ≤ 140737488351232 ∧ s.f1.size ≤ 140737488351232 ∧ s.f2.length ≤ 140737488351232
theorem szSeries_v (s : S137) (h : bigS s) (a : Int) (h0 : 0 ≤ a) (h1 : a ≤ 1048576) : laws_szSeries.f s.f0 s.f1 s.f2 a = some (cutN (a - wS s)) := by
  obtain ⟨h2, h3, h4⟩ := h
  unfold laws_szSeries.f laws_szPointS.f wS
  rw [wrap_small (a - (s.f0.size : Int)) (by omega) (by omega)]
  by_cases c : a - (s.f0.size : Int) < 0
  · rw [if_pos c, cutN_neg (by omega)]
  · rw [if_neg c, wrap_small (a - (s.f0.size : Int) - (s.f1.size : Int)) (by omega) (by omega)]
    by_cases c2 : a - (s.f0.size : Int) - (s.f1.size : Int) < 0
    · rw [if_pos c2, cutN_neg (by omega)]
    · rw [if_neg c2, wrap_small _ (by omega) (by omega)]
      by_cases c3 : a - (s.f0.size : Int) - (s.f1.size : Int) - (s.f2.length : Int) < 0
      · rw [if_pos c3, cutN_neg (by omega)]
        rfl
      · rw [if_neg c3, cutN_nn (by omega), Option.bind_some, if_neg c3]
        congr 1
        omega
theorem rdLS_mid (pre suf : List S137) (p : S137) : rd_T137 (pre ++ p :: suf) (pre.length : Int) = p := by simp [rd_T137]
theorem rdLP_mid (pre suf : List S219) (p : S219) : rd_T219 (pre ++ p :: suf) (pre.length : Int) = p := by simp [rd_T219]
theorem szSeriesS_l0_ev (xs : List S137) (hx : xs.length < 4611686018427387904) (hf : ∀ s ∈ xs, bigS s) : ∀ suf pre (a : Int), xs = pre ++ suf → 0 ≤ a → a ≤ 1048576 → Ev (fun k => laws_szSeriesS.l0 k xs a (pre.length : Int)) (cutN (a - wL suf)) := by
  intro suf
  induction suf with
  | nil =>
    intro pre a h h0 h1
    refine Ev.step (fun k => by rw [laws_szSeriesS.l0]) ?_
    have hlt : ¬ ((pre.length : Int) < (xs.length : Int)) := by rw [h]; simp
    simp only [if_neg hlt, wL, Int.sub_zero]
    rw [cutN_nn (by omega)]
    exact Ev.now _
  | cons s suf ih =>
    intro pre a h h0 h1
    refine Ev.step (fun k => by rw [laws_szSeriesS.l0]) ?_
    have hlt : ((pre.length : Int) < (xs.length : Int)) := by rw [h]; exact lt_mid _ _ _
    have hw := wrapn pre.length (by omega)
    have hrd : rd_T137 xs (pre.length : Int) = s := by rw [h]; exact rdLS_mid _ _ _
    have hs := szSeries_v s (hf s (by rw [h]; simp)) a h0 h1
    have n1 := wS_nn s
    have n2 := wL_nn suf
    simp only [if_pos hlt, if_pos (nn _), hrd, hw, hs, Option.bind_some, wL]
    by_cases c : a - wS s < 0
    · rw [cutN_neg c, cutN_neg (by omega)]
      simp only [show ((-1 : Int) < 0) from by decide, if_true]
      exact Ev.now _
    · rw [cutN_nn c]
      simp only [c, if_false]
      have hr := ih (pre ++ [s]) (a - wS s) (by rw [h]; simp) (by omega) (by omega)
      rw [List.length_append, List.length_singleton] at hr
      rw [show a - (wS s + wL suf) = a - wS s - wL suf from by omega]
      exact hr
theorem szSeriesS_ev (xs : List S137) (hx : xs.length ≤ 140737488351232) (hf : ∀ s ∈ xs, bigS s) (a : Int) (h0 : 0 ≤ a) (h1 : a ≤ 1048576) : Ev (fun k => laws_szSeriesS.f k xs a) (cutN (a - xs.length - wL xs)) := by
  unfold laws_szSeriesS.f
  rw [wrap_small _ (by omega) (by omega)]
  have n2 := wL_nn xs
  by_cases c : a - (xs.length : Int) < 0
  · simp only [c, if_true]
    rw [cutN_neg (by omega)]
    exact Ev.now _
  · simp only [c, if_false]
    exact szSeriesS_l0_ev xs (by omega) hf xs [] _ rfl (by omega) (by omega)
theorem wL_mem : ∀ {l : List S137} {s : S137}, s ∈ l → wS s ≤ wL l
  | x :: r, s, h => by
    have n1 := wS_nn x
    have n2 := wL_nn r
    rcases List.mem_cons.1 h with rfl | h
    · simp only [wL]; omega
    · have := wL_mem h; simp only [wL]; omega
def toP (p : S219) : S37 := ⟨p.f0, p.f1⟩
def toS (s : S137) : S81 := ⟨s.f0, s.f1, s.f2.map toP⟩
theorem set_mid {α : Type} (pre suf : List α) (x y : α) : (pre ++ x :: suf).set pre.length y = pre ++ y :: suf := by
  induction pre with
  | nil => rfl
  | cons a r ih => simp [ih]
theorem toPointS_l0_ev (xs : List S219) (hx : xs.length < 4611686018427387904) : ∀ suf pre, xs = pre ++ suf → Ev (fun k => laws_toPointS.l0 k xs (pre.map toP ++ List.replicate suf.length z37) (pre.length : Int)) (xs.map toP) := by
  intro suf
  induction suf with
  | nil =>
    intro pre h
    refine Ev.step (fun k => by rw [laws_toPointS.l0]) ?_
    have hlt : ¬ ((pre.length : Int) < (xs.length : Int)) := by rw [h]; simp
    simp only [if_neg hlt]
    rw [h, List.append_nil, List.length_nil, List.replicate_zero, List.append_nil]
    exact Ev.now _
  | cons p suf ih =>
    intro pre h
    refine Ev.step (fun k => by rw [laws_toPointS.l0]) ?_
    have hlt : ((pre.length : Int) < (xs.length : Int)) := by rw [h]; exact lt_mid _ _ _
    have hw := wrapn pre.length (by omega)
    have hrd : rd_T219 xs (pre.length : Int) = p := by rw [h]; exact rdLP_mid _ _ _
    have hr := ih (pre ++ [p]) (by rw [h]; simp)
    rw [List.length_append, List.length_singleton, List.map_append, List.append_assoc] at hr
    have hl2 : (pre.length : Int) < ((pre.map toP ++ List.replicate (p :: suf).length z37).length : Int) := by simp; omega
    have hset : (pre.map toP ++ List.replicate (p :: suf).length z37).set pre.length (toP p) = pre.map toP ++ ([p].map toP ++ List.replicate suf.length z37) := by
      rw [List.length_cons, List.replicate_succ]
      have := set_mid (pre.map toP) (List.replicate suf.length z37) z37 (toP p)
      rw [List.length_map] at this
      rw [this]
      rfl
    simp only [if_pos hlt, if_pos (nn _), hrd, hw, laws_toPoint.f, Option.bind_some, if_pos hl2, Int.toNat_natCast]
    rw [show (⟨p.f0, p.f1⟩ : S37) = toP p from rfl, hset]
    exact hr
theorem toPointS_ev (xs : List S219) (hx : xs.length ≤ 1048576) : Ev (fun k => laws_toPointS.f k xs) (xs.map toP) := by
  unfold laws_toPointS.f
  simp only [if_pos (nn _), Int.toNat_natCast, show xs.length ≤ 17592186044416 from by omega, if_true]
  exact toPointS_l0_ev xs (by omega) xs [] rfl
theorem toSeriesS_l0_ev (xs : List S137) (hx : xs.length < 4611686018427387904) (hf : ∀ s ∈ xs, s.f2.length ≤ 1048576) : ∀ suf pre, xs = pre ++ suf → Ev (fun k => laws_toSeriesS.l0 k xs (pre.map toS ++ List.replicate suf.length z81) (pre.length : Int)) (xs.map toS) := by
  intro suf
  induction suf with
  | nil =>
    intro pre h
    refine Ev.step (fun k => by rw [laws_toSeriesS.l0]) ?_
    have hlt : ¬ ((pre.length : Int) < (xs.length : Int)) := by rw [h]; simp
    simp only [if_neg hlt]
    rw [h, List.append_nil, List.length_nil, List.replicate_zero, List.append_nil]
    exact Ev.now _
  | cons p suf ih =>
    intro pre h
    refine Ev.step (fun k => by rw [laws_toSeriesS.l0]) ?_
    have hlt : ((pre.length : Int) < (xs.length : Int)) := by rw [h]; exact lt_mid _ _ _
    have hw := wrapn pre.length (by omega)
    have hrd : rd_T137 xs (pre.length : Int) = p := by rw [h]; exact rdLS_mid _ _ _
    have hr := ih (pre ++ [p]) (by rw [h]; simp)
    rw [List.length_append, List.length_singleton, List.map_append, List.append_assoc] at hr
    have hl2 : (pre.length : Int) < ((pre.map toS ++ List.replicate (p :: suf).length z81).length : Int) := by simp; omega
    have hset : (pre.map toS ++ List.replicate (p :: suf).length z81).set pre.length (toS p) = pre.map toS ++ ([p].map toS ++ List.replicate suf.length z81) := by
      rw [List.length_cons, List.replicate_succ]
      have := set_mid (pre.map toS) (List.replicate suf.length z81) z81 (toS p)
      rw [List.length_map] at this
      rw [this]
      rfl
    simp only [if_pos hlt, if_pos (nn _), hrd, hw, if_pos hl2, Int.toNat_natCast]
    have hto : Ev (fun k => laws_toSeries.f k p.f0 p.f1 p.f2) (p.f0, p.f1, p.f2.map toP) := by
      unfold laws_toSeries.f
      exact Ev.bind (toPointS_ev p.f2 (hf p (by rw [h]; simp))) (Ev.now _)
    refine Ev.bind hto ?_
    rw [show (⟨p.f0, p.f1, p.f2.map toP⟩ : S81) = toS p from rfl, hset]
    exact hr
theorem toSeriesS_ev (xs : List S137) (hx : xs.length ≤ 1048576) (hf : ∀ s ∈ xs, s.f2.length ≤ 1048576) : Ev (fun k => laws_toSeriesS.f k xs) (xs.map toS) := by
  unfold laws_toSeriesS.f
  simp only [if_pos (nn _), Int.toNat_natCast, show xs.length ≤ 5026338869833 from by omega, if_true]
  exact toSeriesS_l0_ev xs (by omega) hf xs [] rfl
theorem eqPointS_l0_ev (xs : List S37) (hx : xs.length < 4611686018427387904) : ∀ suf pre, xs = pre ++ suf → Ev (fun k => laws_eqPointS.l0 k xs xs (pre.length : Int)) true := by
  intro suf
  induction suf with
  | nil =>
    intro pre h
    refine Ev.step (fun k => by rw [laws_eqPointS.l0]) ?_
    have hlt : ¬ ((pre.length : Int) < (xs.length : Int)) := by rw [h]; simp
    simp only [if_neg hlt]
    exact Ev.now _
  | cons p suf ih =>
    intro pre h
    refine Ev.step (fun k => by rw [laws_eqPointS.l0]) ?_
    have hlt : ((pre.length : Int) < (xs.length : Int)) := by rw [h]; exact lt_mid _ _ _
    have hw := wrapn pre.length (by omega)
    have hr := ih (pre ++ [p]) (by rw [h]; simp)
    rw [List.length_append, List.length_singleton] at hr
    simp only [if_pos hlt, if_pos (nn _), hw, laws_eqPoint.f, if_true, Option.bind_some]
    exact hr
theorem eqPointS_ev (xs : List S37) (hx : xs.length < 4611686018427387904) : Ev (fun k => laws_eqPointS.f k xs xs) true := by
  unfold laws_eqPointS.f
  simp only [if_true]
  exact eqPointS_l0_ev xs hx xs [] rfl
theorem eqSeriesS_l0_ev (xs : List S81) (hx : xs.length < 4611686018427387904) (hf : ∀ s ∈ xs, s.f2.length < 4611686018427387904) : ∀ suf pre, xs = pre ++ suf → Ev (fun k => laws_eqSeriesS.l0 k xs xs (pre.length : Int)) true := by
  intro suf
  induction suf with
  | nil =>
    intro pre h
    refine Ev.step (fun k => by rw [laws_eqSeriesS.l0]) ?_
    have hlt : ¬ ((pre.length : Int) < (xs.length : Int)) := by rw [h]; simp
    simp only [if_neg hlt]
    exact Ev.now _
  | cons p suf ih =>
    intro pre h
    refine Ev.step (fun k => by rw [laws_eqSeriesS.l0]) ?_
    have hlt : ((pre.length : Int) < (xs.length : Int)) := by rw [h]; exact lt_mid _ _ _
    have hw := wrapn pre.length (by omega)
    have hrd : rd_T81 xs (pre.length : Int) = p := by rw [h]; exact rdS_mid _ _ _
    have hr := ih (pre ++ [p]) (by rw [h]; simp)
    rw [List.length_append, List.length_singleton] at hr
    simp only [if_pos hlt, if_pos (nn _), hw, laws_eqSeries.f, if_true, hrd]
    refine Ev.bind (a := true) ?_ ?_
    · exact Ev.bind (eqPointS_ev p.f2 (hf p (by rw [h]; simp))) (by simp only [if_true]; exact Ev.now _)
    · simp only [if_true]
      exact hr
theorem eqSeriesS_ev (xs : List S81) (hx : xs.length < 4611686018427387904) (hf : ∀ s ∈ xs, s.f2.length < 4611686018427387904) : Ev (fun k => laws_eqSeriesS.f k xs xs) true := by
  unfold laws_eqSeriesS.f
  simp only [if_true]
  exact eqSeriesS_l0_ev xs hx hf xs [] rfl
theorem fit_toS {l : List S137} (h : ∀ s ∈ l, wS s ≤ 1048576) : ∀ s ∈ l.map toS, fitS s := by
  intro s hs
  obtain ⟨x, hx, rfl⟩ := List.mem_map.1 hs
  have := h x hx
  unfold wS at this
  refine ⟨?_, ?_, ?_⟩
  · show x.f0.size < _; omega
  · show x.f1.size < _; omega
  · show (x.f2.map toP).length < _
    rw [List.length_map]; omega
end Go.Proofs.Ytplekidnlofioaa.Q
namespace Go.Proofs.Ytplekidnlofioaa.Q
open Go.RowKit Go.Proofs.YtplekidnlofioaaW.PrintWords Go.Proofs.YtplekidnlofioaaW.PrintLast Go.Proofs.YtplekidnlofioaaW.PrintMore
attribute [local go_sem] max2_int min2_int max_two min_two max_three min_three max_four min_four   -- for this text's walks alone
set_option linter.unusedVariables false
set_option linter.unusedSimpArgs false

/-! ### laws_markText: function 82 -/
def laws_markText.l0 : Nat → Int → ByteArray → Option (ByteArray)
 | 0, _, _ => none
 | k + 1, x0, x3 => if x0 > 0 then ((some (([(wrap64 (48 + (Int.tmod x0 10))) % 256] : List Int) : List Int)).bind fun y301 => (if (strOfNums y301).size + x3.size ≤ 9223372036854775807 then (laws_markText.l0 k (wrap64 (Int.tdiv x0 10)) ((strOfNums y301) ++ x3)) else (none))) else (if 1 + x3.size ≤ 9223372036854775807 then (some ((⟨#[109]⟩ : ByteArray) ++ x3)) else (none))
def laws_markText.f (k : Nat) (a0 : Int) : Option (ByteArray) := if a0 ≤ 0 then (some (⟨#[109, 48]⟩ : ByteArray)) else (laws_markText.l0 k a0 (⟨#[]⟩ : ByteArray))
theorem laws_markText.mono_l : ∀ k, (∀ y0 y1, LeO (laws_markText.l0 k y0 y1) (laws_markText.l0 (k + 1) y0 y1))
 | 0 => fun _ _ r h => by simp [laws_markText.l0] at h
 | k + 1 => by
  have ih0 := laws_markText.mono_l k
  · intro y0 y1
    unfold laws_markText.l0
    repeat' first
    | (with_reducible exact ih0 _ _)
    | (with_reducible exact LeO.refl _)
    | (with_reducible exact LeO.none _)
    | (with_reducible refine LeO.ite ?_ ?_)
    | (with_reducible refine LeO.bind ?_ (fun _ => ?_))
    | exact ih0 _ _
    | exact LeO.none _
    | refine LeO.ite ?_ ?_
    | refine LeO.bind ?_ (fun _ => ?_)
theorem laws_markText.mono : ∀ a0 k, LeO (laws_markText.f k a0) (laws_markText.f (k + 1) a0) := by
 intro a0 k
 have ih0 := laws_markText.mono_l k
 unfold laws_markText.f
 repeat' first
  | (with_reducible exact ih0 _ _)
  | (with_reducible exact LeO.refl _)
  | (with_reducible exact LeO.none _)
  | (with_reducible refine LeO.ite ?_ ?_)
  | (with_reducible refine LeO.bind ?_ (fun _ => ?_))
  | exact ih0 _ _
  | exact LeO.none _
  | refine LeO.ite ?_ ?_
  | refine LeO.bind ?_ (fun _ => ?_)
set_option maxHeartbeats 8000000 in
set_option maxRecDepth 100000 in
theorem laws_markText.calls (k : Nat) (a0 : Int) (r : ByteArray) (w : World) (h : laws_markText.f k a0 = some r) :
 Calls Try.prog 82 #[.int .i64 a0] w fun e w' => e = .returned (.string r) ∧ Below w.heap.size w w' := by
 have HB := Aside0.mk (Below.refl w.heap.size w)
 have H : (if a0 ≤ 0 then (some (⟨#[109, 48]⟩ : ByteArray)) else (laws_markText.l0 k a0 (⟨#[]⟩ : ByteArray))) = some r := h
 clear h
 by_cases c2 : a0 ≤ 0
 · rw [if_pos c2] at H
   have c2b0 : decide (a0 ≤ 0) = true := decide_eq_true c2
   clear c2
   obtain rfl := Option.some.inj H
   go_enter Try.func82, Try.ntmps82
   go_wp2
   go_ret
   exact ⟨ew, bl⟩
 · rw [if_neg c2] at H
   have c2b0 : decide (a0 ≤ 0) = false := decide_eq_false c2
   clear c2
   have H' := Aside0.mk H
   clear H
   go_enter Try.func82, Try.ntmps82
   go_wp2
   go_loopg [0, 3] k (fun kq v0 v3 w' => ∃ (x0_1 : Int) (x3_1 : ByteArray), v0 = .int .i64 x0_1 ∧ v3 = .string x3_1 ∧ Aside0 (laws_markText.l0 kq x0_1 x3_1 = some r) ∧ Aside0 (kq ≤ k) ∧ Aside0 (Below w.heap.size w w'))
   case atStart => exact ⟨(a0), ((⟨#[]⟩ : ByteArray)), es, es, H', ⟨Nat.le_refl _⟩, ⟨bl⟩⟩
   case round =>
    clear H'
    try clear c2
    try clear c2b0
    try clear p2
    obtain ⟨x0_1, x3_1, rfl, rfl, HA, HK1, HB⟩ := hrel
    cases gk with
    | zero => exact absurd HA.out (by simp [laws_markText.l0])
    | succ k1 =>
     have H := HA.out
     clear HA
     simp only [laws_markText.l0] at H
     by_cases c3 : x0_1 > 0
     · rw [if_pos c3] at H
       have c3b0 : decide (0 < x0_1) = true := decide_eq_true c3
       clear c3
       obtain ⟨y301, hy301⟩ : ∃ y_ : List Int, y_ = (([(wrap64 (48 + (Int.tmod x0_1 10))) % 256] : List Int)) := ⟨_, rfl⟩
       replace H : (if (strOfNums y301).size + x3_1.size ≤ 9223372036854775807 then (laws_markText.l0 k1 (wrap64 (Int.tdiv x0_1 10)) ((strOfNums y301) ++ x3_1)) else (none)) = some r := by first | (rw [hy301]; with_reducible exact H) | (have H2_ := (Option.bind_some _ _).symm.trans H; rw [hy301]; with_reducible exact H2_) | (have H2_ := (Option.bind_some _ _).symm.trans H; with_reducible exact H2_) | with_reducible exact H | (rw [hy301]; exact H) | exact H
       have Ny301 := Aside0.mk hy301
       clear hy301
       by_cases c4 : (strOfNums y301).size + x3_1.size ≤ 9223372036854775807
       · rw [if_pos c4] at H
         have c4b0 := eq_true c4
         have c4b1 : decide ((strOfNums y301).size + x3_1.size ≤ 9223372036854775807) = true := decide_eq_true c4
         try have c4b2 : (9223372036854775807 < (strOfNums y301).size + x3_1.size) = False := eq_false (Nat.not_lt.2 c4)
         have H' := Aside0.mk H
         clear H
         go_wp2_with (first | ((with_reducible refine gate_dst (N := 12) rfl ?_); refine Kd.R_lit (Kd.int .u8) _ 5 ?hg (N := 12) ?hd (xs := ([(wrap64 (48 + (Int.tmod x0_1 10))) % 256] : List Int)) (inner := [.int .u8 ((wrap64 (48 + (Int.tmod x0_1 10))) % 256)]) (ok := fun _ => True) (okp := fun _ => True) ?hr ?hp (fun _ hk => hk) trivial (Below.refl _ _) (Nat.le_refl _) (by simp) ?_; (case hd => rfl); (case hg => rfl); (case hr => first | (go_simp; done) | (go_simp; rfl)); (case hp => exact (Reps.one (show Kd.M (Kd.int .u8) _ _ _ ((wrap64 (48 + (Int.tmod x0_1 10))) % 256) [.int .u8 ((wrap64 (48 + (Int.tmod x0_1 10))) % 256)] from rfl) (Reps.none _ _))); intro v302 w5 ho6 hb hg_ hnew_; clear hg_ hnew_; (first | rw [← Ny301.out] at ho6 | (simp only [Int.reduceToNat] at ho6; rw [← Ny301.out] at ho6)); have HO303 := ak (Kd.R_lower ho6 (below_size bl)); replace HB := ak (below_step bl hb); clear hb ho6; have hcv7 := own_string (P := Try.prog) Try.underlying22 Try.underlying5 Try.underlying9 (Kd.own_of_R HO303.out)))
         go_roundg k1
         case measure => have := HK1.out; omega
         case rel => exact ⟨(wrap64 (Int.tdiv x0_1 10)), ((strOfNums y301) ++ x3_1), es, es, H', ⟨kp⟩, ⟨bl⟩⟩
       · rw [if_neg c4] at H
         exact absurd H (by simp)
     · rw [if_neg c3] at H
       have c3b0 : decide (0 < x0_1) = false := decide_eq_false c3
       clear c3
       by_cases c8 : 1 + x3_1.size ≤ 9223372036854775807
       · rw [if_pos c8] at H
         have c8b0 := eq_true c8
         have c8b1 : decide (1 + x3_1.size ≤ 9223372036854775807) = true := decide_eq_true c8
         try have c8b2 : (9223372036854775807 < 1 + x3_1.size) = False := eq_false (Nat.not_lt.2 c8)
         obtain rfl := Option.some.inj H
         go_wp2
         go_ret
         exact ⟨ew, bl⟩
       · rw [if_neg c8] at H
         exact absurd H (by simp)

end Go.Proofs.Ytplekidnlofioaa.Q
namespace Go.Proofs.Ytplekidnlofioaa.Q
open Go.RowKit Go.Proofs.YtplekidnlofioaaW.PrintWords Go.Proofs.YtplekidnlofioaaW.PrintLast Go.Proofs.YtplekidnlofioaaW.PrintMore
attribute [local go_sem] max2_int min2_int max_two min_two max_three min_three max_four min_four   -- for this text's walks alone
set_option linter.unusedVariables false
set_option linter.unusedSimpArgs false

/-! ### laws_markPointS: function 83 -/
def laws_markPointS.l0 : Nat → List (S37) → Int → Int → Option (Int × (List (S37)))
 | 0, _, _, _ => none
 | k + 1, x0, x1, x5 => if x5 < (x0.length : Int) then (if 0 ≤ x5 then ((some (x0.set (x5 : Int).toNat (⟨x1, (rd_T37 x0 x5).f1⟩ : S37) : List (S37))).bind fun y304 => (laws_markPointS.l0 k (y304.set (x5 : Int).toNat (⟨(rd_T37 y304 x5).f0, wrap64 (x1 + 1)⟩ : S37)) (wrap64 ((wrap64 (x1 + 1)) + 1)) (wrap64 (x5 + 1)))) else (none)) else (some (x1, x0))
def laws_markPointS.f (k : Nat) (l0 : List (S37)) (a1 : Int) : Option (Int × (List (S37))) := laws_markPointS.l0 k l0 a1 0
theorem laws_markPointS.mono_l : ∀ k, (∀ y0 y1 y2, LeO (laws_markPointS.l0 k y0 y1 y2) (laws_markPointS.l0 (k + 1) y0 y1 y2))
 | 0 => fun _ _ _ r h => by simp [laws_markPointS.l0] at h
 | k + 1 => by
  have ih0 := laws_markPointS.mono_l k
  · intro y0 y1 y2
    unfold laws_markPointS.l0
    repeat' first
    | (with_reducible exact ih0 _ _ _)
    | (with_reducible exact LeO.refl _)
    | (with_reducible exact LeO.none _)
    | (with_reducible refine LeO.ite ?_ ?_)
    | (with_reducible refine LeO.bind ?_ (fun _ => ?_))
    | exact ih0 _ _ _
    | exact LeO.none _
    | refine LeO.ite ?_ ?_
    | refine LeO.bind ?_ (fun _ => ?_)
theorem laws_markPointS.mono : ∀ a0 a1 k, LeO (laws_markPointS.f k a0 a1) (laws_markPointS.f (k + 1) a0 a1) := by
 intro a0 a1 k
 have ih0 := laws_markPointS.mono_l k
 unfold laws_markPointS.f
 repeat' first
  | (with_reducible exact ih0 _ _ _)
  | (with_reducible exact LeO.refl _)
  | (with_reducible exact LeO.none _)
  | (with_reducible refine LeO.ite ?_ ?_)
  | (with_reducible refine LeO.bind ?_ (fun _ => ?_))
  | exact ih0 _ _ _
  | exact LeO.none _
  | refine LeO.ite ?_ ?_
  | refine LeO.bind ?_ (fun _ => ?_)
set_option maxHeartbeats 8000000 in
set_option maxRecDepth 100000 in
theorem laws_markPointS.calls (k : Nat) (P0_ : Nat → Prop) (u9000_ : Value) (l0 : List (S37)) (a1 : Int) (r1 : Int) (r2 : List (S37)) (w0 w : World) (hB : Below w0.heap.size w0 w) (ho0 : Kd.R k37 37 w w0.heap.size P0_ u9000_ l0) (h : laws_markPointS.f k l0 a1 = some (r1, r2)) :
 Calls Try.prog 83 #[u9000_, .int .i64 a1] w fun e w' => e = .returned (.int .i64 r1) ∧ Kd.R k37 37 w' w0.heap.size (fun k_ => (P0_ k_ ∨ w.heap.size ≤ k_)) u9000_ r2 ∧ Below w0.heap.size w0 w' ∧ Kept w w' (fun k_ => P0_ k_) := by
 have HO0 := Aside0.mk (show Kd.R k37 37 w w0.heap.size (fun k_ => (P0_ k_ ∨ w.heap.size ≤ k_)) u9000_ l0 from Kd.R_mono ho0 (fun k_ hk => (.inl hk)))
 have HK := Aside0.mk (Kept.refl w (fun k_ => P0_ k_))
 have HW0 := Aside0.mk hB.size
 have HB := Aside0.mk hB
 clear hB
 have H : (laws_markPointS.l0 k l0 a1 0) = some (r1, r2) := h
 clear h
 have H' := Aside0.mk H
 clear H
 go_enter Try.func83, Try.ntmps83
 go_wp2
 go_loopg [1, 5] k (fun kq v1 v5 w' => ∃ (x0_1 : List (S37)) (x1_1 : Int) (x5_1 : Int), v1 = .int .i64 x1_1 ∧ v5 = .int .i64 x5_1 ∧ Aside0 (laws_markPointS.l0 kq x0_1 x1_1 x5_1 = some (r1, r2)) ∧ Aside0 (kq ≤ k) ∧ Aside0 (Kd.R k37 37 w' w0.heap.size (fun k_ => (P0_ k_ ∨ w.heap.size ≤ k_)) u9000_ x0_1) ∧ Aside0 (Kept w w' (fun k_ => P0_ k_)) ∧ Aside0 (Below w0.heap.size w0 w'))
 case atStart => exact ⟨(l0), (a1), (0), es, es, H', ⟨Nat.le_refl _⟩, ⟨kr HO0⟩, ⟨by repeat (first | (with_reducible first | exact HK.out | apply Kept.alloc | apply Kept.drewN | apply Kept.drew) | exact HK.out)⟩, ⟨bl⟩⟩
 case round =>
  clear H'
  try clear p2
  obtain ⟨x0_1, x1_1, x5_1, rfl, rfl, HA, HK1, HO_0, HK, HB⟩ := hrel
  cases gk with
  | zero => exact absurd HA.out (by simp [laws_markPointS.l0])
  | succ k1 =>
   have H := HA.out
   clear HA
   simp only [laws_markPointS.l0] at H
   by_cases c3 : x5_1 < (x0_1.length : Int)
   · rw [if_pos c3] at H
     have c3b0 : decide (x5_1 < (x0_1.length : Int)) = true := decide_eq_true c3
     clear c3
     by_cases c4 : 0 ≤ x5_1
     · rw [if_pos c4] at H
       have c4b0 : decide (0 ≤ x5_1) = true := decide_eq_true c4
       clear c4
       obtain ⟨y304, hy304⟩ : ∃ y_ : List (S37), y_ = (x0_1.set (x5_1 : Int).toNat (⟨x1_1, (rd_T37 x0_1 x5_1).f1⟩ : S37)) := ⟨_, rfl⟩
       replace H : (laws_markPointS.l0 k1 (y304.set (x5_1 : Int).toNat (⟨(rd_T37 y304 x5_1).f0, wrap64 (x1_1 + 1)⟩ : S37)) (wrap64 ((wrap64 (x1_1 + 1)) + 1)) (wrap64 (x5_1 + 1))) = some (r1, r2) := by first | (rw [hy304]; with_reducible exact H) | (have H2_ := (Option.bind_some _ _).symm.trans H; rw [hy304]; with_reducible exact H2_) | (have H2_ := (Option.bind_some _ _).symm.trans H; with_reducible exact H2_) | with_reducible exact H | (rw [hy304]; exact H) | exact H
       have Ny304 := Aside0.mk hy304
       clear hy304
       obtain ⟨y305, hy305⟩ : ∃ y_ : List (S37), y_ = (y304.set (x5_1 : Int).toNat (⟨(rd_T37 y304 x5_1).f0, wrap64 (x1_1 + 1)⟩ : S37)) := ⟨_, rfl⟩
       replace H : (laws_markPointS.l0 k1 y305 (wrap64 ((wrap64 (x1_1 + 1)) + 1)) (wrap64 (x5_1 + 1))) = some (r1, r2) := by first | (rw [hy305]; with_reducible exact H) | (have H2_ := (Option.bind_some _ _).symm.trans H; rw [hy305]; with_reducible exact H2_) | (have H2_ := (Option.bind_some _ _).symm.trans H; with_reducible exact H2_) | with_reducible exact H | (rw [hy305]; exact H) | exact H
       have Ny305 := Aside0.mk hy305
       clear hy305
       have H' := Aside0.mk H
       clear H
       obtain ⟨Ao7, co7, eo7⟩ := Kd.R_slice HO_0.out
       subst eo7
       have p5 : 0 ≤ (x5_1 : Int) := of_decide_eq_true am
       have q5 : (x5_1 : Int) < ((x0_1.length : Int) : Int) := of_decide_eq_true am
       obtain ⟨go5, co5, eo5, gb5, gl5, cl5, HG5⟩ := Kd.R_form HO_0.out (by omega)
       (first | cases eo5 | (injection eo5 with ea_ en_ ec_; (first | subst ea_ | (injection ea_ with ea_; subst ea_)); subst ec_; clear en_))
       have GB5 := Aside0.mk gb5
       have GG5 := Aside0.mk HG5
       clear gb5 gl5 HG5
       have HMgo5 := Aside0.mk (show (P0_ go5 ∨ w.heap.size ≤ go5) from (HO_0.out.1 _ rfl))
       obtain ⟨ce5, hcl5, hM5, hcc5, hfr5⟩ := Kd.R_elem HO_0.out z37 (x5_1 : Int) p5 q5
       obtain rfl := k37_openM hM5
       have hx5_0 : wr.cell? ⟨go5, (x5_1 : Int).toNat * 2, none⟩ = some (.int .i64 ((rd_T37 x0_1 x5_1).f0)) := hcc5 0 _ rfl
       have hx5_1 : wr.cell? ⟨go5, (x5_1 : Int).toNat * 2 + 1, none⟩ = some (.int .i64 ((rd_T37 x0_1 x5_1).f1)) := hcc5 1 _ rfl
       have hf5_0 : wr.frozen? ⟨go5, (x5_1 : Int).toNat * 2, none⟩ = false := hfr5 0
       have hf5_1 : wr.frozen? ⟨go5, (x5_1 : Int).toNat * 2 + 1, none⟩ = false := hfr5 1
       clear hcl5 hcc5 hfr5 hM5
       replace p5 := eq_true p5
       replace q5 := eq_true q5
       have HX8 := Aside0.mk (show Kd.R k37 37 wr w0.heap.size (fun k_ => (P0_ k_ ∨ w.heap.size ≤ k_)) (.slice (some ⟨go5, 0, none⟩) x0_1.length co7) x0_1 from (kr HO_0))
       obtain ⟨ce8, hcl8, hM8, hcc8, hfr8⟩ := Kd.R_elem HX8.out z37 (x5_1 : Int) (of_decide_eq_true am) (by have h_ : (x5_1 : Int) < ((x0_1.length : Int) : Int) := of_decide_eq_true am; first | exact h_ | (have e_ := (Kd.R_reads' HO_0.out).1; omega) | simpa using h_)
       obtain rfl := k37_openM hM8
       have HP8 := Kd.R_seg HX8.out (x5_1 : Int) (of_decide_eq_true am) (by have h_ : (x5_1 : Int) < ((x0_1.length : Int) : Int) := of_decide_eq_true am; first | exact h_ | (have e_ := (Kd.R_reads' HO_0.out).1; omega) | simpa using h_) (seg := [.int .i64 x1_1]) (j := 0) hcl8 hcc8 (show 1 ≤ 2 from by decide) (x' := (⟨x1_1, (rd_T37 x0_1 x5_1).f1⟩ : S37)) (k37_mkM _ _ _ (⟨x1_1, (rd_T37 x0_1 x5_1).f1⟩ : S37) ) (fun _ hk => hk)
       have hx8_0 := hcc8 0 _ rfl
       (try simp only [show (k37).sz = 2 from rfl, Nat.mul_one, Nat.add_zero] at hx8_0)
       have hf8_0 := hfr8 0
       (try simp only [show (k37).sz = 2 from rfl, Nat.mul_one, Nat.add_zero] at hf8_0)
       clear hcl8 hcc8 hfr8 hM8
       go_wp2_with (first | ((with_reducible refine gate_store (t := 3) (p := 16) rfl ?_); refine store_event (t := 3) (p := 16) (v := ?vo_w9) (w1 := (wr.setCell ⟨go5, (x5_1 : Int).toNat * 2, none⟩ (.int .i64 x1_1))) ?hg ?ho ?hn ?hr ?_; (case ho => rfl); (case hg => rfl); (case hn => rfl); (case hr => first | (go_simp; done) | (go_simp; rfl)); intro w9 hw; have hg : wr.grownBy w9 (some go5) := (by rw [hw]; exact HP8.2); have hp_ : Kd.R k37 37 w9 w0.heap.size (fun k_ => (P0_ k_ ∨ w.heap.size ≤ k_)) (.slice (some ⟨go5, 0, none⟩) x0_1.length co7) y304 := (by rw [hw, Ny304.out]; exact HP8.1); clear HP8; replace HB := ak (by rw [hw]; exact below_set (HB.out) GB5.out : Below w0.heap.size w0 w9); replace HK := ak (Kept.of_grown (S := (fun k_ => P0_ k_)) hg (by repeat (first | (with_reducible first | exact HK.out | apply Kept.alloc | apply Kept.drewN | apply Kept.drew) | exact HK.out)) (fun k_ e_ => (HO_0.out.1 k_ e_))); replace HO_0 := ak hp_; clear hg hw hp_; have p6 : 0 ≤ (x5_1 : Int) := of_decide_eq_true am; have q6 : (x5_1 : Int) < ((x0_1.length : Int) : Int) := of_decide_eq_true am; obtain ⟨ce6, hcl6, hM6, hcc6, hfr6⟩ := Kd.R_elem HO_0.out z37 (x5_1 : Int) p6 q6; obtain rfl := k37_openM hM6; have hx6_0 : w9.cell? ⟨go5, (x5_1 : Int).toNat * 2, none⟩ = some (.int .i64 ((rd_T37 y304 x5_1).f0)) := hcc6 0 _ rfl; have hx6_1 : w9.cell? ⟨go5, (x5_1 : Int).toNat * 2 + 1, none⟩ = some (.int .i64 ((rd_T37 y304 x5_1).f1)) := hcc6 1 _ rfl; have hf6_0 : w9.frozen? ⟨go5, (x5_1 : Int).toNat * 2, none⟩ = false := hfr6 0; have hf6_1 : w9.frozen? ⟨go5, (x5_1 : Int).toNat * 2 + 1, none⟩ = false := hfr6 1; clear hcl6 hcc6 hfr6 hM6; replace p6 := eq_true p6; replace q6 := eq_true q6; have HX10 := Aside0.mk (show Kd.R k37 37 w9 w0.heap.size (fun k_ => (P0_ k_ ∨ w.heap.size ≤ k_)) (.slice (some ⟨go5, 0, none⟩) x0_1.length co7) y304 from (kr HO_0)); obtain ⟨ce10, hcl10, hM10, hcc10, hfr10⟩ := Kd.R_elem HX10.out z37 (x5_1 : Int) (of_decide_eq_true am) (by have h_ : (x5_1 : Int) < ((x0_1.length : Int) : Int) := of_decide_eq_true am; first | exact h_ | (have e_ := (Kd.R_reads' HO_0.out).1; omega) | simpa using h_); obtain rfl := k37_openM hM10; have HP10 := Kd.R_seg HX10.out (x5_1 : Int) (of_decide_eq_true am) (by have h_ : (x5_1 : Int) < ((x0_1.length : Int) : Int) := of_decide_eq_true am; first | exact h_ | (have e_ := (Kd.R_reads' HO_0.out).1; omega) | simpa using h_) (seg := [.int .i64 (wrap64 (x1_1 + 1))]) (j := 1) hcl10 hcc10 (show 2 ≤ 2 from by decide) (x' := (⟨(rd_T37 y304 x5_1).f0, wrap64 (x1_1 + 1)⟩ : S37)) (k37_mkM _ _ _ (⟨(rd_T37 y304 x5_1).f0, wrap64 (x1_1 + 1)⟩ : S37) ) (fun _ hk => hk); have hx10_1 := hcc10 1 _ rfl; (try simp only [show (k37).sz = 2 from rfl, Nat.mul_one, Nat.add_zero] at hx10_1); have hf10_1 := hfr10 1; (try simp only [show (k37).sz = 2 from rfl, Nat.mul_one, Nat.add_zero] at hf10_1); clear hcl10 hcc10 hfr10 hM10) | ((with_reducible refine gate_store (t := 3) (p := 23) rfl ?_); refine store_event (t := 3) (p := 23) (v := ?vo_w11) (w1 := (w9.setCell ⟨go5, (x5_1 : Int).toNat * 2 + 1, none⟩ (.int .i64 (wrap64 (x1_1 + 1))))) ?hg ?ho ?hn ?hr ?_; (case ho => rfl); (case hg => rfl); (case hn => rfl); (case hr => first | (go_simp; done) | (go_simp; rfl)); intro w11 hw; have hg : w9.grownBy w11 (some go5) := (by rw [hw]; exact HP10.2); have hp_ : Kd.R k37 37 w11 w0.heap.size (fun k_ => (P0_ k_ ∨ w.heap.size ≤ k_)) (.slice (some ⟨go5, 0, none⟩) x0_1.length co7) y305 := (by rw [hw, Ny305.out]; exact HP10.1); clear HP10; replace HB := ak (by rw [hw]; exact below_set (HB.out) GB5.out : Below w0.heap.size w0 w11); replace HK := ak (Kept.of_grown (S := (fun k_ => P0_ k_)) hg (by repeat (first | (with_reducible first | exact HK.out | apply Kept.alloc | apply Kept.drewN | apply Kept.drew) | exact HK.out)) (fun k_ e_ => (HO_0.out.1 k_ e_))); replace HO_0 := ak hp_; clear hg hw hp_))
       go_roundg k1
       case measure => have := HK1.out; omega
       case rel => exact ⟨(y305), (wrap64 ((wrap64 (x1_1 + 1)) + 1)), (wrap64 (x5_1 + 1)), es, es, H', ⟨kp⟩, ⟨kr HO_0⟩, ⟨by repeat (first | (with_reducible first | exact HK.out | apply Kept.alloc | apply Kept.drewN | apply Kept.drew) | exact HK.out)⟩, ⟨bl⟩⟩
     · rw [if_neg c4] at H
       exact absurd H (by simp)
   · rw [if_neg c3] at H
     have c3b0 : decide (x5_1 < (x0_1.length : Int)) = false := decide_eq_false c3
     clear c3
     simp only [Option.some.injEq, Prod.mk.injEq] at H
     obtain ⟨rfl, rfl⟩ := H
     obtain ⟨Ao12, co12, eo12⟩ := Kd.R_slice HO_0.out
     subst eo12
     go_wp2
     go_ret
     exact ⟨ew, kr HO_0, bl, by repeat (first | (with_reducible first | exact HK.out | apply Kept.alloc | apply Kept.drewN | apply Kept.drew) | exact HK.out)⟩

end Go.Proofs.Ytplekidnlofioaa.Q
namespace Go.Proofs.Ytplekidnlofioaa.Q
open Go.RowKit Go.Proofs.YtplekidnlofioaaW.PrintWords Go.Proofs.YtplekidnlofioaaW.PrintLast Go.Proofs.YtplekidnlofioaaW.PrintMore
attribute [local go_sem] max2_int min2_int max_two min_two max_three min_three max_four min_four   -- for this text's walks alone
set_option linter.unusedVariables false
set_option linter.unusedSimpArgs false

/-! ### laws_heldPointS: function 84 -/
def laws_heldPointS.l0 : Nat → List (S37) → Int → Int → Option (Int)
 | 0, _, _, _ => none
 | k + 1, x0, x1, x5 => if x5 < (x0.length : Int) then (if 0 ≤ x5 then (if ((rd_T37 x0 x5).f0) = x1 then (if ((rd_T37 x0 x5).f1) = (wrap64 (x1 + 1)) then (laws_heldPointS.l0 k x0 (wrap64 ((wrap64 (x1 + 1)) + 1)) (wrap64 (x5 + 1))) else (some (-1))) else (some (-1))) else (none)) else (some x1)
def laws_heldPointS.f (k : Nat) (l0 : List (S37)) (a1 : Int) : Option (Int) := laws_heldPointS.l0 k l0 a1 0
theorem laws_heldPointS.mono_l : ∀ k, (∀ y0 y1 y2, LeO (laws_heldPointS.l0 k y0 y1 y2) (laws_heldPointS.l0 (k + 1) y0 y1 y2))
 | 0 => fun _ _ _ r h => by simp [laws_heldPointS.l0] at h
 | k + 1 => by
  have ih0 := laws_heldPointS.mono_l k
  · intro y0 y1 y2
    unfold laws_heldPointS.l0
    repeat' first
    | (with_reducible exact ih0 _ _ _)
    | (with_reducible exact LeO.refl _)
    | (with_reducible exact LeO.none _)
    | (with_reducible refine LeO.ite ?_ ?_)
    | (with_reducible refine LeO.bind ?_ (fun _ => ?_))
    | exact ih0 _ _ _
    | exact LeO.none _
    | refine LeO.ite ?_ ?_
    | refine LeO.bind ?_ (fun _ => ?_)
theorem laws_heldPointS.mono : ∀ a0 a1 k, LeO (laws_heldPointS.f k a0 a1) (laws_heldPointS.f (k + 1) a0 a1) := by
 intro a0 a1 k
 have ih0 := laws_heldPointS.mono_l k
 unfold laws_heldPointS.f
 repeat' first
  | (with_reducible exact ih0 _ _ _)
  | (with_reducible exact LeO.refl _)
  | (with_reducible exact LeO.none _)
  | (with_reducible refine LeO.ite ?_ ?_)
  | (with_reducible refine LeO.bind ?_ (fun _ => ?_))
  | exact ih0 _ _ _
  | exact LeO.none _
  | refine LeO.ite ?_ ?_
  | refine LeO.bind ?_ (fun _ => ?_)
set_option maxHeartbeats 8000000 in
set_option maxRecDepth 100000 in
theorem laws_heldPointS.calls (k : Nat) (A0 : Option Addr) (c0 : Nat) (l0 : List (S37)) (a1 : Int) (r : Int) (w : World) (hr0 : Kd.C k37 w A0 l0.length l0) (hc0 : l0.length ≤ c0) (h : laws_heldPointS.f k l0 a1 = some r) :
 Calls Try.prog 84 #[.slice A0 l0.length c0, .int .i64 a1] w fun e w' => e = .returned (.int .i64 r) ∧ Drawn0 w w' := by
 have HR0 := Aside0.mk hr0
 have HC0 := Aside0.mk hc0
 clear hr0 hc0
 have H : (laws_heldPointS.l0 k l0 a1 0) = some r := h
 clear h
 have H' := Aside0.mk H
 clear H
 go_enter Try.func84, Try.ntmps84
 go_wp2
 go_loopg [1, 5] k (fun kq v1 v5 w' => ∃ (x1_1 : Int) (x5_1 : Int), v1 = .int .i64 x1_1 ∧ v5 = .int .i64 x5_1 ∧ Aside0 (laws_heldPointS.l0 kq l0 x1_1 x5_1 = some r) ∧ Aside0 (kq ≤ k) ∧ Drawn0 w w')
 case atStart => exact ⟨(a1), (0), es, es, H', ⟨Nat.le_refl _⟩, dr0⟩
 case round =>
  clear H'
  try clear p2
  obtain ⟨x1_1, x5_1, rfl, rfl, HA, HK1, ⟨m1, rfl⟩⟩ := hrel
  cases gk with
  | zero => exact absurd HA.out (by simp [laws_heldPointS.l0])
  | succ k1 =>
   have H := HA.out
   clear HA
   simp only [laws_heldPointS.l0] at H
   by_cases c3 : x5_1 < (l0.length : Int)
   · rw [if_pos c3] at H
     have c3b0 : decide (x5_1 < (l0.length : Int)) = true := decide_eq_true c3
     clear c3
     by_cases c4 : 0 ≤ x5_1
     · rw [if_pos c4] at H
       have c4b0 : decide (0 ≤ x5_1) = true := decide_eq_true c4
       clear c4
       by_cases c5 : ((rd_T37 l0 x5_1).f0) = x1_1
       · rw [if_pos c5] at H
         have c5b0 : (((rd_T37 l0 x5_1).f0) == x1_1) = true := beq_iff_eq.mpr c5
         have c5b1 : (((rd_T37 l0 x5_1).f0) != x1_1) = false := bne_eq_false_iff_eq.mpr c5
         clear c5
         by_cases c6 : ((rd_T37 l0 x5_1).f1) = (wrap64 (x1_1 + 1))
         · rw [if_pos c6] at H
           have c6b0 : (((rd_T37 l0 x5_1).f1) == (wrap64 (x1_1 + 1))) = true := beq_iff_eq.mpr c6
           have c6b1 : (((rd_T37 l0 x5_1).f1) != (wrap64 (x1_1 + 1))) = false := bne_eq_false_iff_eq.mpr c6
           clear c6
           have H' := Aside0.mk H
           clear H
           have p307 : 0 ≤ (x5_1 : Int) := of_decide_eq_true am
           have q307 : x5_1 < (l0.length : Int) := of_decide_eq_true am
           obtain ⟨ad307, e307, hx307_0, hx307_1⟩ := at_T37 HR0.out x5_1 p307 q307
           cases e307
           replace p307 := eq_true p307
           replace q307 := eq_true q307
           have p308 : 0 ≤ (x5_1 : Int) := of_decide_eq_true am
           have q308 : x5_1 < (l0.length : Int) := of_decide_eq_true am
           obtain ⟨ad308, e308, hx308_0, hx308_1⟩ := at_T37 HR0.out x5_1 p308 q308
           obtain rfl : ad307 = ad308 := (by injection e308)
           replace p308 := eq_true p308
           replace q308 := eq_true q308
           go_wp2
           go_roundg k1
           case measure => have := HK1.out; omega
           case rel => exact ⟨(wrap64 ((wrap64 (x1_1 + 1)) + 1)), (wrap64 (x5_1 + 1)), es, es, H', ⟨kp⟩, dr0⟩
         · rw [if_neg c6] at H
           have c6b0 : (((rd_T37 l0 x5_1).f1) == (wrap64 (x1_1 + 1))) = false := beq_eq_false_iff_ne.mpr c6
           have c6b1 : (((rd_T37 l0 x5_1).f1) != (wrap64 (x1_1 + 1))) = true := bne_iff_ne.mpr c6
           obtain rfl := Option.some.inj H
           have p307 : 0 ≤ (x5_1 : Int) := of_decide_eq_true am
           have q307 : x5_1 < (l0.length : Int) := of_decide_eq_true am
           obtain ⟨ad307, e307, hx307_0, hx307_1⟩ := at_T37 HR0.out x5_1 p307 q307
           cases e307
           replace p307 := eq_true p307
           replace q307 := eq_true q307
           have p308 : 0 ≤ (x5_1 : Int) := of_decide_eq_true am
           have q308 : x5_1 < (l0.length : Int) := of_decide_eq_true am
           obtain ⟨ad308, e308, hx308_0, hx308_1⟩ := at_T37 HR0.out x5_1 p308 q308
           obtain rfl : ad307 = ad308 := (by injection e308)
           replace p308 := eq_true p308
           replace q308 := eq_true q308
           go_wp2
           go_ret
           exact ⟨es, dr0⟩
       · rw [if_neg c5] at H
         have c5b0 : (((rd_T37 l0 x5_1).f0) == x1_1) = false := beq_eq_false_iff_ne.mpr c5
         have c5b1 : (((rd_T37 l0 x5_1).f0) != x1_1) = true := bne_iff_ne.mpr c5
         obtain rfl := Option.some.inj H
         have p307 : 0 ≤ (x5_1 : Int) := of_decide_eq_true am
         have q307 : x5_1 < (l0.length : Int) := of_decide_eq_true am
         obtain ⟨ad307, e307, hx307_0, hx307_1⟩ := at_T37 HR0.out x5_1 p307 q307
         cases e307
         replace p307 := eq_true p307
         replace q307 := eq_true q307
         go_wp2
         go_ret
         exact ⟨es, dr0⟩
     · rw [if_neg c4] at H
       exact absurd H (by simp)
   · rw [if_neg c3] at H
     have c3b0 : decide (x5_1 < (l0.length : Int)) = false := decide_eq_false c3
     clear c3
     obtain rfl := Option.some.inj H
     go_wp2
     go_ret
     exact ⟨es, dr0⟩

end Go.Proofs.Ytplekidnlofioaa.Q
namespace Go.Proofs.Ytplekidnlofioaa.Q
open Go.RowKit Go.Proofs.YtplekidnlofioaaW.PrintWords Go.Proofs.YtplekidnlofioaaW.PrintLast Go.Proofs.YtplekidnlofioaaW.PrintMore
attribute [local go_sem] max2_int min2_int max_two min_two max_three min_three max_four min_four   -- for this text's walks alone
set_option linter.unusedVariables false
set_option linter.unusedSimpArgs false

/-! ### laws_heldSeriesS: function 26 -/
def laws_heldSeriesS.l0 : Nat → List (S81) → Int → Int → Option (Int)
 | 0, _, _, _ => none
 | k + 1, x0, x1, x5 => if x5 < (x0.length : Int) then (if 0 ≤ x5 then ((laws_markText.f k x1).bind fun t310 => (if ((rd_T81 x0 x5).f0).toList = t310.toList then ((laws_markText.f k (wrap64 (x1 + 1))).bind fun t312 => (if ((rd_T81 x0 x5).f1).toList = t312.toList then ((laws_heldPointS.f k ((rd_T81 x0 x5).f2) (wrap64 ((wrap64 (x1 + 1)) + 1))).bind fun t314 => (if t314 < 0 then (some (-1)) else (laws_heldSeriesS.l0 k x0 t314 (wrap64 (x5 + 1))))) else (some (-1)))) else (some (-1)))) else (none)) else (some x1)
def laws_heldSeriesS.f (k : Nat) (l0 : List (S81)) (a1 : Int) : Option (Int) := laws_heldSeriesS.l0 k l0 a1 0
theorem laws_heldSeriesS.mono_l : ∀ k, (∀ y0 y1 y2, LeO (laws_heldSeriesS.l0 k y0 y1 y2) (laws_heldSeriesS.l0 (k + 1) y0 y1 y2))
 | 0 => fun _ _ _ r h => by simp [laws_heldSeriesS.l0] at h
 | k + 1 => by
  have ih0 := laws_heldSeriesS.mono_l k
  · intro y0 y1 y2
    unfold laws_heldSeriesS.l0
    repeat' first
    | (with_reducible exact ih0 _ _ _)
    | (with_reducible exact laws_heldPointS.mono _ _ _)
    | (with_reducible exact laws_markText.mono _ _)
    | (with_reducible exact LeO.refl _)
    | (with_reducible exact LeO.none _)
    | (with_reducible refine LeO.ite ?_ ?_)
    | (with_reducible refine LeO.bind ?_ (fun _ => ?_))
    | exact ih0 _ _ _
    | exact laws_heldPointS.mono _ _ _
    | exact laws_markText.mono _ _
    | exact LeO.none _
    | refine LeO.ite ?_ ?_
    | refine LeO.bind ?_ (fun _ => ?_)
theorem laws_heldSeriesS.mono : ∀ a0 a1 k, LeO (laws_heldSeriesS.f k a0 a1) (laws_heldSeriesS.f (k + 1) a0 a1) := by
 intro a0 a1 k
 have ih0 := laws_heldSeriesS.mono_l k
 unfold laws_heldSeriesS.f
 repeat' first
  | (with_reducible exact ih0 _ _ _)
  | (with_reducible exact laws_heldPointS.mono _ _ _)
  | (with_reducible exact laws_markText.mono _ _)
  | (with_reducible exact LeO.refl _)
  | (with_reducible exact LeO.none _)
  | (with_reducible refine LeO.ite ?_ ?_)
  | (with_reducible refine LeO.bind ?_ (fun _ => ?_))
  | exact ih0 _ _ _
  | exact laws_heldPointS.mono _ _ _
  | exact laws_markText.mono _ _
  | exact LeO.none _
  | refine LeO.ite ?_ ?_
  | refine LeO.bind ?_ (fun _ => ?_)
def laws_heldSeriesS.T4 : Bool × List (List Nat × List Nat) := (true, [([], []), ([], []), ([0, 1], [0, 1]), ([2], [2]), ([3], [3]), ([], []), ([5], [5]), ([4, 6], [4, 6])])
def laws_heldSeriesS.B4 : List Nat := [0, 0, 3, 7, 15, 0, 32, 127]
theorem laws_heldSeriesS.tab4 : rtab .any (opsOf Try.f26 4) = laws_heldSeriesS.T4 := by kernel_rfl
theorem laws_heldSeriesS.bits4 : waitsOk laws_heldSeriesS.T4.2 laws_heldSeriesS.B4 = true := by kernel_rfl
def laws_heldSeriesS.T7 : Bool × List (List Nat × List Nat) := (true, [([], []), ([], []), ([0, 1], [0, 1]), ([2], [2]), ([3], [3]), ([], []), ([5], [5]), ([4, 6], [4, 6])])
def laws_heldSeriesS.B7 : List Nat := [0, 0, 3, 7, 15, 0, 32, 127]
theorem laws_heldSeriesS.tab7 : rtab .any (opsOf Try.f26 7) = laws_heldSeriesS.T7 := by kernel_rfl
theorem laws_heldSeriesS.bits7 : waitsOk laws_heldSeriesS.T7.2 laws_heldSeriesS.B7 = true := by kernel_rfl
set_option maxHeartbeats 8000000 in
set_option maxRecDepth 100000 in
theorem laws_heldSeriesS.calls (k : Nat) (A0 : Option Addr) (c0 : Nat) (l0 : List (S81)) (a1 : Int) (r : Int) (w : World) (hr0 : Kd.C k81 w A0 l0.length l0) (hc0 : l0.length ≤ c0) (h : laws_heldSeriesS.f k l0 a1 = some r) :
 Calls Try.prog 26 #[.slice A0 l0.length c0, .int .i64 a1] w fun e w' => e = .returned (.int .i64 r) ∧ Below w.heap.size w w' := by
 have HR0 := Aside0.mk hr0
 have HC0 := Aside0.mk hc0
 clear hr0 hc0
 have HB := Aside0.mk (Below.refl w.heap.size w)
 have H : (laws_heldSeriesS.l0 k l0 a1 0) = some r := h
 clear h
 have H' := Aside0.mk H
 clear H
 go_enter Try.func26, Try.ntmps26
 go_wp2
 go_loopg [1, 5] k (fun kq v1 v5 w' => ∃ (x1_1 : Int) (x5_1 : Int), v1 = .int .i64 x1_1 ∧ v5 = .int .i64 x5_1 ∧ Aside0 (laws_heldSeriesS.l0 kq l0 x1_1 x5_1 = some r) ∧ Aside0 (kq ≤ k) ∧ Aside0 (Below w.heap.size w w'))
 case atStart => exact ⟨(a1), (0), es, es, H', ⟨Nat.le_refl _⟩, ⟨bl⟩⟩
 case round =>
  clear H'
  try clear c2
  try clear p2
  obtain ⟨x1_1, x5_1, rfl, rfl, HA, HK1, HB⟩ := hrel
  cases gk with
  | zero => exact absurd HA.out (by simp [laws_heldSeriesS.l0])
  | succ k1 =>
   have H := HA.out
   clear HA
   simp only [laws_heldSeriesS.l0] at H
   by_cases c3 : x5_1 < (l0.length : Int)
   · rw [if_pos c3] at H
     have c3b0 : decide (x5_1 < (l0.length : Int)) = true := decide_eq_true c3
     clear c3
     by_cases c4 : 0 ≤ x5_1
     · rw [if_pos c4] at H
       have c4b0 : decide (0 ≤ x5_1) = true := decide_eq_true c4
       clear c4
       obtain ⟨t310, A50, H⟩ := bo H
       have A5 := Aside0.mk A50
       clear A50
       by_cases c6 : ((rd_T81 l0 x5_1).f0).toList = t310.toList
       · rw [if_pos c6] at H
         have c6b0 : (((rd_T81 l0 x5_1).f0).toList == t310.toList) = true := beq_iff_eq.mpr c6
         have c6b1 : (((rd_T81 l0 x5_1).f0).toList != t310.toList) = false := bne_eq_false_iff_eq.mpr c6
         clear c6
         obtain ⟨t312, A70, H⟩ := bo H
         have A7 := Aside0.mk A70
         clear A70
         by_cases c8 : ((rd_T81 l0 x5_1).f1).toList = t312.toList
         · rw [if_pos c8] at H
           have c8b0 : (((rd_T81 l0 x5_1).f1).toList == t312.toList) = true := beq_iff_eq.mpr c8
           have c8b1 : (((rd_T81 l0 x5_1).f1).toList != t312.toList) = false := bne_eq_false_iff_eq.mpr c8
           clear c8
           obtain ⟨t314, A90, H⟩ := bo H
           have A9 := Aside0.mk A90
           clear A90
           by_cases c10 : t314 < 0
           · rw [if_pos c10] at H
             have c10b0 : decide (t314 < 0) = true := decide_eq_true c10
             clear c10
             obtain rfl := Option.some.inj H
             try go_wp2
             replace HB := ak (below_drew1 HB.out)
             have p309 : 0 ≤ (x5_1 : Int) := of_decide_eq_true am
             have q309 : x5_1 < (l0.length : Int) := of_decide_eq_true am
             obtain ⟨ad309, A309_2, c309_2, e309, hx309_0, hx309_1, hx309_2, hl309_2, hi309_2⟩ := at_T81 HR0.out x5_1 p309 q309
             have hw309_2 := hx309_2
             have hw309_1 := hx309_1
             have hw309_0 := hx309_0
             cases e309
             replace hx309_0 := cw hx309_0
             replace hx309_1 := cw hx309_1
             replace hx309_2 := cw hx309_2
             have HR309_2 := Aside0.mk hi309_2
             have HC309_2 := Aside0.mk hl309_2
             clear hi309_2 hl309_2
             replace p309 := eq_true p309
             replace q309 := eq_true q309
             refine start_ (n := 8) (S := fun w' => w'.cell? (ad309.add ((x5_1).toNat * 3)) = some (.string ((rd_T81 l0 x5_1).f0)) ∧ w'.cell? ⟨(ad309.add ((x5_1).toNat * 3)).block, (ad309.add ((x5_1).toNat * 3)).off + 1, none⟩ = some (.string ((rd_T81 l0 x5_1).f1)) ∧ w'.cell? ⟨(ad309.add ((x5_1).toNat * 3)).block, (ad309.add ((x5_1).toNat * 3)).off + 2, none⟩ = some (.slice A309_2 ((rd_T81 l0 x5_1).f2).length c309_2)) (ds := []) (bitsA 8 0) (by kernel_rfl) rfl rfl ⟨(cw hw309_0), (cw hw309_1), (cw hw309_2)⟩ (fun hHeld => ?_); refine with_tabW laws_heldSeriesS.tab4 laws_heldSeriesS.bits4 (fun HT_ HW_ => ?_)
             generalize wr.drew = w11 at HB HR309_2 hx309_0 hx309_1 hx309_2 hHeld ⊢
             refine pu 0 (some 12) (bitsA 8 1) ?_
             refine pu 1 (some 13) (bitsA 8 3) ?_
             refine pu 2 (some 14) (bitsA 8 7) ?_
             refine pu 3 (some 15) (bitsA 8 15) ?_
             refine tk 4 (some 16) (bitsA 8 31) hHeld ?_ (hy := Or.inl ⟨by rfl, by rintro w' ⟨s0, s1, s2⟩; go_simp; with_reducible rfl⟩)
             refine pu 5 (some 17) (bitsA 8 63) ?_
             refine one_ (i := 6) (N := some 18) (bitsA 8 127) rfl rfl (one_of HT_.out (by kernel_rfl)) (by decide) (fun K hK => ?_)
             refine goes_ Try.func82 (by kernel_rfl) rfl #[.int .i64 x1_1] (by rfl) rfl rfl mt ?_
             with_reducible refine (laws_markText.calls k1 x1_1 t310 _ A5.out).mono ?_
             rintro e w12 ⟨rfl, hb⟩
             refine ⟨_, rfl, ?_⟩
             replace HB := ak (below_step bl hb)
             (try clear hb)
             (try clear hb2)
             (try clear hk)
             (try clear hi)
             refine hK.out _ _ ⟨(cw hw309_0), (cw hw309_1), (cw hw309_2)⟩ (fun hHeld => ?_)
             clear hK K
             refine nm ?_
             refine pu 7 (some 19) (bitsA 8 255) ?_
             refine done_ (done_of HT_.out (by kernel_rfl)) ?_
             try go_wp2
             replace HB := ak (below_drew1 HB.out)
             have p311 : 0 ≤ (x5_1 : Int) := of_decide_eq_true am
             have q311 : x5_1 < (l0.length : Int) := of_decide_eq_true am
             obtain ⟨ad311, A311_2, c311_2, e311, hx311_0, hx311_1, hx311_2, hl311_2, hi311_2⟩ := at_T81 HR0.out x5_1 p311 q311
             have hw311_2 := hx311_2
             have hw311_1 := hx311_1
             have hw311_0 := hx311_0
             obtain rfl : ad309 = ad311 := (by injection e311)
             obtain ⟨rfl, rfl⟩ : A311_2 = A309_2 ∧ c311_2 = c309_2 := (by have h_ := hw309_2.symm.trans hx311_2; injection h_ with h_; injection h_ with h1_ _ h3_; exact ⟨h1_.symm, h3_.symm⟩)
             replace hx311_0 := cw hx311_0
             replace hx311_1 := cw hx311_1
             replace hx311_2 := cw hx311_2
             have HR311_2 := Aside0.mk hi311_2
             have HC311_2 := Aside0.mk hl311_2
             clear hi311_2 hl311_2
             replace p311 := eq_true p311
             replace q311 := eq_true q311
             refine start_ (n := 8) (S := fun w' => w'.cell? (ad309.add ((x5_1).toNat * 3)) = some (.string ((rd_T81 l0 x5_1).f0)) ∧ w'.cell? ⟨(ad309.add ((x5_1).toNat * 3)).block, (ad309.add ((x5_1).toNat * 3)).off + 1, none⟩ = some (.string ((rd_T81 l0 x5_1).f1)) ∧ w'.cell? ⟨(ad309.add ((x5_1).toNat * 3)).block, (ad309.add ((x5_1).toNat * 3)).off + 2, none⟩ = some (.slice A311_2 ((rd_T81 l0 x5_1).f2).length c311_2)) (ds := []) (bitsA 8 0) (by kernel_rfl) rfl rfl ⟨(cw hw311_0), (cw hw311_1), (cw hw311_2)⟩ (fun hHeld => ?_); refine with_tabW laws_heldSeriesS.tab7 laws_heldSeriesS.bits7 (fun HT_ HW_ => ?_)
             generalize w12.drew = w13 at HB HR311_2 hx311_0 hx311_1 hx311_2 hHeld ⊢
             refine pu 0 (some 22) (bitsA 8 1) ?_
             refine pu 1 (some 23) (bitsA 8 3) ?_
             refine pu 2 (some 24) (bitsA 8 7) ?_
             refine pu 3 (some 25) (bitsA 8 15) ?_
             refine tk 4 (some 26) (bitsA 8 31) hHeld ?_ (hy := Or.inl ⟨by rfl, by rintro w' ⟨s0, s1, s2⟩; go_simp; with_reducible rfl⟩)
             refine pu 5 (some 27) (bitsA 8 63) ?_
             refine one_ (i := 6) (N := some 28) (bitsA 8 127) rfl rfl (one_of HT_.out (by kernel_rfl)) (by decide) (fun K hK => ?_)
             refine goes_ Try.func82 (by kernel_rfl) rfl #[.int .i64 (wrap64 (x1_1 + 1))] (by rfl) rfl rfl mt ?_
             with_reducible refine (laws_markText.calls k1 (wrap64 (x1_1 + 1)) t312 _ A7.out).mono ?_
             rintro e w14 ⟨rfl, hb⟩
             refine ⟨_, rfl, ?_⟩
             replace HB := ak (below_step bl hb)
             (try clear hb)
             (try clear hb2)
             (try clear hk)
             (try clear hi)
             refine hK.out _ _ ⟨(cw hw311_0), (cw hw311_1), (cw hw311_2)⟩ (fun hHeld => ?_)
             clear hK K
             refine nm ?_
             refine pu 7 (some 29) (bitsA 8 255) ?_
             refine done_ (done_of HT_.out (by kernel_rfl)) ?_
             have p313 : 0 ≤ (x5_1 : Int) := of_decide_eq_true am
             have q313 : x5_1 < (l0.length : Int) := of_decide_eq_true am
             obtain ⟨ad313, A313_2, c313_2, e313, hx313_0, hx313_1, hx313_2, hl313_2, hi313_2⟩ := at_T81 HR0.out x5_1 p313 q313
             obtain rfl : ad309 = ad313 := (by injection e313)
             obtain ⟨rfl, rfl⟩ : A313_2 = A311_2 ∧ c313_2 = c311_2 := (by have h_ := hw311_2.symm.trans hx313_2; injection h_ with h_; injection h_ with h1_ _ h3_; exact ⟨h1_.symm, h3_.symm⟩)
             replace hx313_0 := cw hx313_0
             replace hx313_1 := cw hx313_1
             replace hx313_2 := cw hx313_2
             have HR313_2 := Aside0.mk hi313_2
             have HC313_2 := Aside0.mk hl313_2
             clear hi313_2 hl313_2
             replace p313 := eq_true p313
             replace q313 := eq_true q313
             try go_wp2_with (first | ((with_reducible refine gate_callee (f := 84) rfl ?_); refine gl (some 38) Try.func84 #[.slice A313_2 ((rd_T81 l0 x5_1).f2).length c313_2, .int .i64 (wrap64 ((wrap64 (x1_1 + 1)) + 1))] ?_; (with_reducible refine (laws_heldPointS.calls k1 _ _ ((rd_T81 l0 x5_1).f2) (wrap64 ((wrap64 (x1_1 + 1)) + 1)) t314 _ ?side1 ?side2 A9.out).mono ?_); (case side1 => exact cb HR313_2); (case side2 => exact HC313_2.out); rintro e w' ⟨rfl, ⟨nd, rfl⟩⟩; refine ⟨_, rfl, ?_⟩))
             go_ret
             exact ⟨ew, bl⟩
           · rw [if_neg c10] at H
             have c10b0 : decide (t314 < 0) = false := decide_eq_false c10
             clear c10
             have H' := Aside0.mk H
             clear H
             try go_wp2
             replace HB := ak (below_drew1 HB.out)
             have p309 : 0 ≤ (x5_1 : Int) := of_decide_eq_true am
             have q309 : x5_1 < (l0.length : Int) := of_decide_eq_true am
             obtain ⟨ad309, A309_2, c309_2, e309, hx309_0, hx309_1, hx309_2, hl309_2, hi309_2⟩ := at_T81 HR0.out x5_1 p309 q309
             have hw309_2 := hx309_2
             have hw309_1 := hx309_1
             have hw309_0 := hx309_0
             cases e309
             replace hx309_0 := cw hx309_0
             replace hx309_1 := cw hx309_1
             replace hx309_2 := cw hx309_2
             have HR309_2 := Aside0.mk hi309_2
             have HC309_2 := Aside0.mk hl309_2
             clear hi309_2 hl309_2
             replace p309 := eq_true p309
             replace q309 := eq_true q309
             refine start_ (n := 8) (S := fun w' => w'.cell? (ad309.add ((x5_1).toNat * 3)) = some (.string ((rd_T81 l0 x5_1).f0)) ∧ w'.cell? ⟨(ad309.add ((x5_1).toNat * 3)).block, (ad309.add ((x5_1).toNat * 3)).off + 1, none⟩ = some (.string ((rd_T81 l0 x5_1).f1)) ∧ w'.cell? ⟨(ad309.add ((x5_1).toNat * 3)).block, (ad309.add ((x5_1).toNat * 3)).off + 2, none⟩ = some (.slice A309_2 ((rd_T81 l0 x5_1).f2).length c309_2)) (ds := []) (bitsA 8 0) (by kernel_rfl) rfl rfl ⟨(cw hw309_0), (cw hw309_1), (cw hw309_2)⟩ (fun hHeld => ?_); refine with_tabW laws_heldSeriesS.tab4 laws_heldSeriesS.bits4 (fun HT_ HW_ => ?_)
             generalize wr.drew = w15 at HB HR309_2 hx309_0 hx309_1 hx309_2 hHeld ⊢
             refine pu 0 (some 12) (bitsA 8 1) ?_
             refine pu 1 (some 13) (bitsA 8 3) ?_
             refine pu 2 (some 14) (bitsA 8 7) ?_
             refine pu 3 (some 15) (bitsA 8 15) ?_
             refine tk 4 (some 16) (bitsA 8 31) hHeld ?_ (hy := Or.inl ⟨by rfl, by rintro w' ⟨s0, s1, s2⟩; go_simp; with_reducible rfl⟩)
             refine pu 5 (some 17) (bitsA 8 63) ?_
             refine one_ (i := 6) (N := some 18) (bitsA 8 127) rfl rfl (one_of HT_.out (by kernel_rfl)) (by decide) (fun K hK => ?_)
             refine goes_ Try.func82 (by kernel_rfl) rfl #[.int .i64 x1_1] (by rfl) rfl rfl mt ?_
             with_reducible refine (laws_markText.calls k1 x1_1 t310 _ A5.out).mono ?_
             rintro e w16 ⟨rfl, hb⟩
             refine ⟨_, rfl, ?_⟩
             replace HB := ak (below_step bl hb)
             (try clear hb)
             (try clear hb2)
             (try clear hk)
             (try clear hi)
             refine hK.out _ _ ⟨(cw hw309_0), (cw hw309_1), (cw hw309_2)⟩ (fun hHeld => ?_)
             clear hK K
             refine nm ?_
             refine pu 7 (some 19) (bitsA 8 255) ?_
             refine done_ (done_of HT_.out (by kernel_rfl)) ?_
             try go_wp2
             replace HB := ak (below_drew1 HB.out)
             have p311 : 0 ≤ (x5_1 : Int) := of_decide_eq_true am
             have q311 : x5_1 < (l0.length : Int) := of_decide_eq_true am
             obtain ⟨ad311, A311_2, c311_2, e311, hx311_0, hx311_1, hx311_2, hl311_2, hi311_2⟩ := at_T81 HR0.out x5_1 p311 q311
             have hw311_2 := hx311_2
             have hw311_1 := hx311_1
             have hw311_0 := hx311_0
             obtain rfl : ad309 = ad311 := (by injection e311)
             obtain ⟨rfl, rfl⟩ : A311_2 = A309_2 ∧ c311_2 = c309_2 := (by have h_ := hw309_2.symm.trans hx311_2; injection h_ with h_; injection h_ with h1_ _ h3_; exact ⟨h1_.symm, h3_.symm⟩)
             replace hx311_0 := cw hx311_0
             replace hx311_1 := cw hx311_1
             replace hx311_2 := cw hx311_2
             have HR311_2 := Aside0.mk hi311_2
             have HC311_2 := Aside0.mk hl311_2
             clear hi311_2 hl311_2
             replace p311 := eq_true p311
             replace q311 := eq_true q311
             refine start_ (n := 8) (S := fun w' => w'.cell? (ad309.add ((x5_1).toNat * 3)) = some (.string ((rd_T81 l0 x5_1).f0)) ∧ w'.cell? ⟨(ad309.add ((x5_1).toNat * 3)).block, (ad309.add ((x5_1).toNat * 3)).off + 1, none⟩ = some (.string ((rd_T81 l0 x5_1).f1)) ∧ w'.cell? ⟨(ad309.add ((x5_1).toNat * 3)).block, (ad309.add ((x5_1).toNat * 3)).off + 2, none⟩ = some (.slice A311_2 ((rd_T81 l0 x5_1).f2).length c311_2)) (ds := []) (bitsA 8 0) (by kernel_rfl) rfl rfl ⟨(cw hw311_0), (cw hw311_1), (cw hw311_2)⟩ (fun hHeld => ?_); refine with_tabW laws_heldSeriesS.tab7 laws_heldSeriesS.bits7 (fun HT_ HW_ => ?_)
             generalize w16.drew = w17 at HB HR311_2 hx311_0 hx311_1 hx311_2 hHeld ⊢
             refine pu 0 (some 22) (bitsA 8 1) ?_
             refine pu 1 (some 23) (bitsA 8 3) ?_
             refine pu 2 (some 24) (bitsA 8 7) ?_
             refine pu 3 (some 25) (bitsA 8 15) ?_
             refine tk 4 (some 26) (bitsA 8 31) hHeld ?_ (hy := Or.inl ⟨by rfl, by rintro w' ⟨s0, s1, s2⟩; go_simp; with_reducible rfl⟩)
             refine pu 5 (some 27) (bitsA 8 63) ?_
             refine one_ (i := 6) (N := some 28) (bitsA 8 127) rfl rfl (one_of HT_.out (by kernel_rfl)) (by decide) (fun K hK => ?_)
             refine goes_ Try.func82 (by kernel_rfl) rfl #[.int .i64 (wrap64 (x1_1 + 1))] (by rfl) rfl rfl mt ?_
             with_reducible refine (laws_markText.calls k1 (wrap64 (x1_1 + 1)) t312 _ A7.out).mono ?_
             rintro e w18 ⟨rfl, hb⟩
             refine ⟨_, rfl, ?_⟩
             replace HB := ak (below_step bl hb)
             (try clear hb)
             (try clear hb2)
             (try clear hk)
             (try clear hi)
             refine hK.out _ _ ⟨(cw hw311_0), (cw hw311_1), (cw hw311_2)⟩ (fun hHeld => ?_)
             clear hK K
             refine nm ?_
             refine pu 7 (some 29) (bitsA 8 255) ?_
             refine done_ (done_of HT_.out (by kernel_rfl)) ?_
             have p313 : 0 ≤ (x5_1 : Int) := of_decide_eq_true am
             have q313 : x5_1 < (l0.length : Int) := of_decide_eq_true am
             obtain ⟨ad313, A313_2, c313_2, e313, hx313_0, hx313_1, hx313_2, hl313_2, hi313_2⟩ := at_T81 HR0.out x5_1 p313 q313
             obtain rfl : ad309 = ad313 := (by injection e313)
             obtain ⟨rfl, rfl⟩ : A313_2 = A311_2 ∧ c313_2 = c311_2 := (by have h_ := hw311_2.symm.trans hx313_2; injection h_ with h_; injection h_ with h1_ _ h3_; exact ⟨h1_.symm, h3_.symm⟩)
             replace hx313_0 := cw hx313_0
             replace hx313_1 := cw hx313_1
             replace hx313_2 := cw hx313_2
             have HR313_2 := Aside0.mk hi313_2
             have HC313_2 := Aside0.mk hl313_2
             clear hi313_2 hl313_2
             replace p313 := eq_true p313
             replace q313 := eq_true q313
             try go_wp2_with (first | ((with_reducible refine gate_callee (f := 84) rfl ?_); refine gl (some 38) Try.func84 #[.slice A313_2 ((rd_T81 l0 x5_1).f2).length c313_2, .int .i64 (wrap64 ((wrap64 (x1_1 + 1)) + 1))] ?_; (with_reducible refine (laws_heldPointS.calls k1 _ _ ((rd_T81 l0 x5_1).f2) (wrap64 ((wrap64 (x1_1 + 1)) + 1)) t314 _ ?side1 ?side2 A9.out).mono ?_); (case side1 => exact cb HR313_2); (case side2 => exact HC313_2.out); rintro e w' ⟨rfl, ⟨nd, rfl⟩⟩; refine ⟨_, rfl, ?_⟩))
             go_roundg k1
             case measure => have := HK1.out; omega
             case rel => exact ⟨(t314), (wrap64 (x5_1 + 1)), es, es, H', ⟨kp⟩, ⟨bl⟩⟩
         · rw [if_neg c8] at H
           have c8b0 : (((rd_T81 l0 x5_1).f1).toList == t312.toList) = false := beq_eq_false_iff_ne.mpr c8
           have c8b1 : (((rd_T81 l0 x5_1).f1).toList != t312.toList) = true := bne_iff_ne.mpr c8
           obtain rfl := Option.some.inj H
           try go_wp2
           replace HB := ak (below_drew1 HB.out)
           have p309 : 0 ≤ (x5_1 : Int) := of_decide_eq_true am
           have q309 : x5_1 < (l0.length : Int) := of_decide_eq_true am
           obtain ⟨ad309, A309_2, c309_2, e309, hx309_0, hx309_1, hx309_2, hl309_2, hi309_2⟩ := at_T81 HR0.out x5_1 p309 q309
           have hw309_2 := hx309_2
           have hw309_1 := hx309_1
           have hw309_0 := hx309_0
           cases e309
           replace hx309_0 := cw hx309_0
           replace hx309_1 := cw hx309_1
           replace hx309_2 := cw hx309_2
           have HR309_2 := Aside0.mk hi309_2
           have HC309_2 := Aside0.mk hl309_2
           clear hi309_2 hl309_2
           replace p309 := eq_true p309
           replace q309 := eq_true q309
           refine start_ (n := 8) (S := fun w' => w'.cell? (ad309.add ((x5_1).toNat * 3)) = some (.string ((rd_T81 l0 x5_1).f0)) ∧ w'.cell? ⟨(ad309.add ((x5_1).toNat * 3)).block, (ad309.add ((x5_1).toNat * 3)).off + 1, none⟩ = some (.string ((rd_T81 l0 x5_1).f1)) ∧ w'.cell? ⟨(ad309.add ((x5_1).toNat * 3)).block, (ad309.add ((x5_1).toNat * 3)).off + 2, none⟩ = some (.slice A309_2 ((rd_T81 l0 x5_1).f2).length c309_2)) (ds := []) (bitsA 8 0) (by kernel_rfl) rfl rfl ⟨(cw hw309_0), (cw hw309_1), (cw hw309_2)⟩ (fun hHeld => ?_); refine with_tabW laws_heldSeriesS.tab4 laws_heldSeriesS.bits4 (fun HT_ HW_ => ?_)
           generalize wr.drew = w19 at HB HR309_2 hx309_0 hx309_1 hx309_2 hHeld ⊢
           refine pu 0 (some 12) (bitsA 8 1) ?_
           refine pu 1 (some 13) (bitsA 8 3) ?_
           refine pu 2 (some 14) (bitsA 8 7) ?_
           refine pu 3 (some 15) (bitsA 8 15) ?_
           refine tk 4 (some 16) (bitsA 8 31) hHeld ?_ (hy := Or.inl ⟨by rfl, by rintro w' ⟨s0, s1, s2⟩; go_simp; with_reducible rfl⟩)
           refine pu 5 (some 17) (bitsA 8 63) ?_
           refine one_ (i := 6) (N := some 18) (bitsA 8 127) rfl rfl (one_of HT_.out (by kernel_rfl)) (by decide) (fun K hK => ?_)
           refine goes_ Try.func82 (by kernel_rfl) rfl #[.int .i64 x1_1] (by rfl) rfl rfl mt ?_
           with_reducible refine (laws_markText.calls k1 x1_1 t310 _ A5.out).mono ?_
           rintro e w20 ⟨rfl, hb⟩
           refine ⟨_, rfl, ?_⟩
           replace HB := ak (below_step bl hb)
           (try clear hb)
           (try clear hb2)
           (try clear hk)
           (try clear hi)
           refine hK.out _ _ ⟨(cw hw309_0), (cw hw309_1), (cw hw309_2)⟩ (fun hHeld => ?_)
           clear hK K
           refine nm ?_
           refine pu 7 (some 19) (bitsA 8 255) ?_
           refine done_ (done_of HT_.out (by kernel_rfl)) ?_
           try go_wp2
           replace HB := ak (below_drew1 HB.out)
           have p311 : 0 ≤ (x5_1 : Int) := of_decide_eq_true am
           have q311 : x5_1 < (l0.length : Int) := of_decide_eq_true am
           obtain ⟨ad311, A311_2, c311_2, e311, hx311_0, hx311_1, hx311_2, hl311_2, hi311_2⟩ := at_T81 HR0.out x5_1 p311 q311
           have hw311_2 := hx311_2
           have hw311_1 := hx311_1
           have hw311_0 := hx311_0
           obtain rfl : ad309 = ad311 := (by injection e311)
           obtain ⟨rfl, rfl⟩ : A311_2 = A309_2 ∧ c311_2 = c309_2 := (by have h_ := hw309_2.symm.trans hx311_2; injection h_ with h_; injection h_ with h1_ _ h3_; exact ⟨h1_.symm, h3_.symm⟩)
           replace hx311_0 := cw hx311_0
           replace hx311_1 := cw hx311_1
           replace hx311_2 := cw hx311_2
           have HR311_2 := Aside0.mk hi311_2
           have HC311_2 := Aside0.mk hl311_2
           clear hi311_2 hl311_2
           replace p311 := eq_true p311
           replace q311 := eq_true q311
           refine start_ (n := 8) (S := fun w' => w'.cell? (ad309.add ((x5_1).toNat * 3)) = some (.string ((rd_T81 l0 x5_1).f0)) ∧ w'.cell? ⟨(ad309.add ((x5_1).toNat * 3)).block, (ad309.add ((x5_1).toNat * 3)).off + 1, none⟩ = some (.string ((rd_T81 l0 x5_1).f1)) ∧ w'.cell? ⟨(ad309.add ((x5_1).toNat * 3)).block, (ad309.add ((x5_1).toNat * 3)).off + 2, none⟩ = some (.slice A311_2 ((rd_T81 l0 x5_1).f2).length c311_2)) (ds := []) (bitsA 8 0) (by kernel_rfl) rfl rfl ⟨(cw hw311_0), (cw hw311_1), (cw hw311_2)⟩ (fun hHeld => ?_); refine with_tabW laws_heldSeriesS.tab7 laws_heldSeriesS.bits7 (fun HT_ HW_ => ?_)
           generalize w20.drew = w21 at HB HR311_2 hx311_0 hx311_1 hx311_2 hHeld ⊢
           refine pu 0 (some 22) (bitsA 8 1) ?_
           refine pu 1 (some 23) (bitsA 8 3) ?_
           refine pu 2 (some 24) (bitsA 8 7) ?_
           refine pu 3 (some 25) (bitsA 8 15) ?_
           refine tk 4 (some 26) (bitsA 8 31) hHeld ?_ (hy := Or.inl ⟨by rfl, by rintro w' ⟨s0, s1, s2⟩; go_simp; with_reducible rfl⟩)
           refine pu 5 (some 27) (bitsA 8 63) ?_
           refine one_ (i := 6) (N := some 28) (bitsA 8 127) rfl rfl (one_of HT_.out (by kernel_rfl)) (by decide) (fun K hK => ?_)
           refine goes_ Try.func82 (by kernel_rfl) rfl #[.int .i64 (wrap64 (x1_1 + 1))] (by rfl) rfl rfl mt ?_
           with_reducible refine (laws_markText.calls k1 (wrap64 (x1_1 + 1)) t312 _ A7.out).mono ?_
           rintro e w22 ⟨rfl, hb⟩
           refine ⟨_, rfl, ?_⟩
           replace HB := ak (below_step bl hb)
           (try clear hb)
           (try clear hb2)
           (try clear hk)
           (try clear hi)
           refine hK.out _ _ ⟨(cw hw311_0), (cw hw311_1), (cw hw311_2)⟩ (fun hHeld => ?_)
           clear hK K
           refine nm ?_
           refine pu 7 (some 29) (bitsA 8 255) ?_
           refine done_ (done_of HT_.out (by kernel_rfl)) ?_
           try go_wp2
           go_ret
           exact ⟨ew, bl⟩
       · rw [if_neg c6] at H
         have c6b0 : (((rd_T81 l0 x5_1).f0).toList == t310.toList) = false := beq_eq_false_iff_ne.mpr c6
         have c6b1 : (((rd_T81 l0 x5_1).f0).toList != t310.toList) = true := bne_iff_ne.mpr c6
         obtain rfl := Option.some.inj H
         try go_wp2
         replace HB := ak (below_drew1 HB.out)
         have p309 : 0 ≤ (x5_1 : Int) := of_decide_eq_true am
         have q309 : x5_1 < (l0.length : Int) := of_decide_eq_true am
         obtain ⟨ad309, A309_2, c309_2, e309, hx309_0, hx309_1, hx309_2, hl309_2, hi309_2⟩ := at_T81 HR0.out x5_1 p309 q309
         have hw309_2 := hx309_2
         have hw309_1 := hx309_1
         have hw309_0 := hx309_0
         cases e309
         replace hx309_0 := cw hx309_0
         replace hx309_1 := cw hx309_1
         replace hx309_2 := cw hx309_2
         have HR309_2 := Aside0.mk hi309_2
         have HC309_2 := Aside0.mk hl309_2
         clear hi309_2 hl309_2
         replace p309 := eq_true p309
         replace q309 := eq_true q309
         refine start_ (n := 8) (S := fun w' => w'.cell? (ad309.add ((x5_1).toNat * 3)) = some (.string ((rd_T81 l0 x5_1).f0)) ∧ w'.cell? ⟨(ad309.add ((x5_1).toNat * 3)).block, (ad309.add ((x5_1).toNat * 3)).off + 1, none⟩ = some (.string ((rd_T81 l0 x5_1).f1)) ∧ w'.cell? ⟨(ad309.add ((x5_1).toNat * 3)).block, (ad309.add ((x5_1).toNat * 3)).off + 2, none⟩ = some (.slice A309_2 ((rd_T81 l0 x5_1).f2).length c309_2)) (ds := []) (bitsA 8 0) (by kernel_rfl) rfl rfl ⟨(cw hw309_0), (cw hw309_1), (cw hw309_2)⟩ (fun hHeld => ?_); refine with_tabW laws_heldSeriesS.tab4 laws_heldSeriesS.bits4 (fun HT_ HW_ => ?_)
         generalize wr.drew = w23 at HB HR309_2 hx309_0 hx309_1 hx309_2 hHeld ⊢
         refine pu 0 (some 12) (bitsA 8 1) ?_
         refine pu 1 (some 13) (bitsA 8 3) ?_
         refine pu 2 (some 14) (bitsA 8 7) ?_
         refine pu 3 (some 15) (bitsA 8 15) ?_
         refine tk 4 (some 16) (bitsA 8 31) hHeld ?_ (hy := Or.inl ⟨by rfl, by rintro w' ⟨s0, s1, s2⟩; go_simp; with_reducible rfl⟩)
         refine pu 5 (some 17) (bitsA 8 63) ?_
         refine one_ (i := 6) (N := some 18) (bitsA 8 127) rfl rfl (one_of HT_.out (by kernel_rfl)) (by decide) (fun K hK => ?_)
         refine goes_ Try.func82 (by kernel_rfl) rfl #[.int .i64 x1_1] (by rfl) rfl rfl mt ?_
         with_reducible refine (laws_markText.calls k1 x1_1 t310 _ A5.out).mono ?_
         rintro e w24 ⟨rfl, hb⟩
         refine ⟨_, rfl, ?_⟩
         replace HB := ak (below_step bl hb)
         (try clear hb)
         (try clear hb2)
         (try clear hk)
         (try clear hi)
         refine hK.out _ _ ⟨(cw hw309_0), (cw hw309_1), (cw hw309_2)⟩ (fun hHeld => ?_)
         clear hK K
         refine nm ?_
         refine pu 7 (some 19) (bitsA 8 255) ?_
         refine done_ (done_of HT_.out (by kernel_rfl)) ?_
         try go_wp2
         go_ret
         exact ⟨ew, bl⟩
     · rw [if_neg c4] at H
       exact absurd H (by simp)
   · rw [if_neg c3] at H
     have c3b0 : decide (x5_1 < (l0.length : Int)) = false := decide_eq_false c3
     clear c3
     obtain rfl := Option.some.inj H
     go_wp2
     go_ret
     exact ⟨ew, bl⟩

end Go.Proofs.Ytplekidnlofioaa.Q
