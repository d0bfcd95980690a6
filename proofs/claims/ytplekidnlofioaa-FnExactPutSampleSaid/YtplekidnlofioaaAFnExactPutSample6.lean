/- Part 6 of the proof of FnExactPutSample: contracts of the functions that it reaches, printed and by hand, and what they come to in plain Lean. -/
import Derived.Test.YtplekidnlofioaaAFnExactPutSample5
import Derived.Test.YtplekidnlofioaaAFnExactPutSample4
import Derived.Test.YtplekidnlofioaaAFnExactPutSample2
namespace Go.Proofs.Ytplekidnlofioaa.Q
open Go.RowKit Go.Proofs.YtplekidnlofioaaW.PrintWords Go.Proofs.YtplekidnlofioaaW.PrintLast Go.Proofs.YtplekidnlofioaaW.PrintMore
attribute [local go_sem] max2_int min2_int max_two min_two max_three min_three max_four min_four
set_option linter.unusedVariables false
set_option linter.unusedSimpArgs false
def impl_PutSample_h.T1 : Bool × List (List Nat × List Nat) := (true, [([], []), ([0], [0]), ([], []), ([1, 2, 1], [1, 2]), ([3], [3]), ([3], [3]), ([4, 3, 0, 1, 2, 3, 4, 5], [4]), ([5, 6, 0, 1, 2, 3, 4, 5, 6], [5])])
def impl_PutSample_h.B1 : List Nat := [0, 1, 0, 7, 15, 15, 63, 127]
theorem impl_PutSample_h.tab1 : rtab .any (opsOf Try.f14 1) = impl_PutSample_h.T1 := by kernel_rfl
theorem impl_PutSample_h.bits1 : waitsOk impl_PutSample_h.T1.2 impl_PutSample_h.B1 = true := by kernel_rfl
set_option maxHeartbeats 8000000 in
set_option maxRecDepth 100000 in
theorem impl_PutSample_calls (A0 : Option Addr) (c0 : Nat) (l : List S81) (a b : ByteArray) (vl at_ : Int) (w : World) (hr : Kd.C k81 w A0 l.length l) (hc : l.length ≤ c0) (hl : l.length ≤ 1048576) (hf : ∀ s ∈ l, s.f2.length ≤ 1048576) (hfit : ∀ s ∈ l, fitS s) (ha : a.size < 4611686018427387904) (hb : b.size < 4611686018427387904) :
    Calls Try.prog 14 #[.slice A0 l.length c0, .agg #[.string a, .string b, .int .i64 vl, .int .i64 at_]] w fun e w' => ∃ v : Value, e = .returned (.tuple #[v, .int .i64 (putV l a b vl at_).2]) ∧ Kd.S kq 81 w' w.heap.size (fun _ => True) v (putV l a b vl at_).1 ∧ Below w.heap.size w w' := by
  obtain ⟨k2, hk2⟩ := rounds_of (impl_ownSeries_ev l hl hf)
  have K2 := ak hk2
  have HR := ak hr
  have HC := ak hc
  have HP := ak (And.intro hl (And.intro hf (And.intro hfit (And.intro ha hb))))
  clear hk2 hr hc hl hf hfit ha hb
  go_enter Try.func14, Try.ntmps14
  go_wp2_with (first | ((with_reducible refine gate_dst (N := 3) rfl ?_); refine bx 3 #[.string a, .string b, .int .i64 vl, .int .i64 at_] 30 ?_; intro gb hg w1 hbox hb; have BK := ak hbox; have HB := ak hb; clear hb hbox hg))
  replace HB := ak (below_drew HB.out)
  replace BK := ak (blk_drew BK.out)
  refine start_ (n := 8) (S := fun w' => w'.cell? ⟨gb, 0, none⟩ = some (.string a) ∧ w'.cell? ⟨gb, 1, none⟩ = some (.string b) ∧ w'.cell? ⟨gb, 2, none⟩ = some (.int .i64 vl) ∧ w'.cell? ⟨gb, 3, none⟩ = some (.int .i64 at_)) (ds := [3]) (bitsA 8 0) (by kernel_rfl) rfl rfl ⟨bc BK 0, bc BK 1, bc BK 2, bc BK 3⟩ (fun hHeld => ?_)
  refine with_tabW impl_PutSample_h.tab1 impl_PutSample_h.bits1 (fun HT_ HW_ => ?_)
  generalize w1.drew = w2 at HB BK hHeld ⊢
  refine pu 0 (some 6) (bitsA 8 1) ?_
  refine tk 2 (some 8) (bitsA 8 5) hHeld ?_ (hy := Or.inl ⟨by rfl, by rintro w' ⟨s0, s1, s2, s3⟩; go_simp; with_reducible rfl⟩)
  refine one_ (i := 1) (N := some 7) (bitsA 8 7) rfl rfl (one_of HT_.out (by kernel_rfl)) (by decide) (fun K hK => ?_)
  refine goes_ Try.func65 (by kernel_rfl) rfl #[.slice A0 l.length c0] (by rfl) rfl rfl mt ?_
  refine (impl_ownSeries.calls _ _ _ l l _ ?sa HC.out K2.out).mono ?_
  (case sa => exact Kd.C_below HR.out HB.out)
  rintro e w3 ⟨v6, rfl, ho, hb⟩
  refine ⟨_, rfl, ?_⟩
  replace BK := ak (blk_below BK.out hb)
  have HO := ak (kq_S ho)
  have HD := ak hb
  clear hb ho
  refine hK.out _ _ ⟨bc BK 0, bc BK 1, bc BK 2, bc BK 3⟩ (fun hHeld => ?_)
  clear hK K
  refine nm ?_
  refine last_ (i := 3) (N := some 9) (bitsA 8 15) rfl rfl (one_of HT_.out (by kernel_rfl)) (by decide) (fun K hK => ?_)
  refine goes_ Try.func64 (by kernel_rfl) rfl #[v6, .agg #[.string a, .string b, .int .i64 vl, .int .i64 at_]] (by rfl) rfl rfl mt ?_
  refine (impl_put_calls (fun _ => True) v6 l a b vl at_ w2 _ HD.out HO.out HP.out.1 HP.out.2.1 HP.out.2.2.1 HP.out.2.2.2.1 HP.out.2.2.2.2).mono ?_
  rintro e w4 ⟨v7, rfl, ho, hb, hk⟩
  refine ⟨_, rfl, ?_⟩
  have HF := ak (Kd.S_lower (Kd.S_mono ho (fun _ _ => trivial)) HB.out.size)
  replace HB := ak (below_step HB.out hb)
  clear hb ho hk
  refine hK.out _ _ ?_
  clear hK K
  refine nm ?_
  refine pu 4 (some 10) (bitsA 8 31) ?_
  refine pu 5 (some 11) (bitsA 8 63) ?_
  refine pu 6 (some 4) (bitsA 8 127) ?_
  refine pu 7 (some 5) (bitsA 8 255) ?_
  refine done_ (done_of HT_.out (by kernel_rfl)) ?_
  go_wp2
  go_ret2
  exact ⟨_, rfl, HF.out, HB.out⟩
end Go.Proofs.Ytplekidnlofioaa.Q
namespace Go.Proofs.Ytplekidnlofioaa.Q
open Go.RowKit Go.Proofs.YtplekidnlofioaaW.PrintWords Go.Proofs.YtplekidnlofioaaW.PrintLast Go.Proofs.YtplekidnlofioaaW.PrintMore
attribute [local go_sem] max2_int min2_int max_two min_two max_three min_three max_four min_four   -- for this text's walks alone
set_option linter.unusedVariables false
set_option linter.unusedSimpArgs false

/-! ### spec_SampleOk: function 92 -/
def spec_SampleOk.f (k : Nat) (a0_0 : ByteArray) (a0_1 : ByteArray) (a0_2 : Int) (a0_3 : Int) : Option (Bool) := (spec_NameOk.f k a0_0).bind fun t516 => (if t516 = true then ((spec_NameOk.f k a0_1).bind fun t517 => (if t517 = true then ((spec_l01Amt.f a0_2).bind fun t518 => (if t518 = true then ((spec_l02Tick.f a0_3).bind fun t519 => (some t519)) else (some false))) else (some false))) else (some false))
theorem spec_SampleOk.mono : ∀ a0 a1 a2 a3 k, LeO (spec_SampleOk.f k a0 a1 a2 a3) (spec_SampleOk.f (k + 1) a0 a1 a2 a3) := by
 intro a0 a1 a2 a3 k
 unfold spec_SampleOk.f
 repeat' first
  | (with_reducible exact spec_NameOk.mono _ _)
  | (with_reducible exact LeO.refl _)
  | (with_reducible exact LeO.none _)
  | (with_reducible refine LeO.ite ?_ ?_)
  | (with_reducible refine LeO.bind ?_ (fun _ => ?_))
  | exact spec_NameOk.mono _ _
  | exact LeO.none _
  | refine LeO.ite ?_ ?_
  | refine LeO.bind ?_ (fun _ => ?_)
set_option maxHeartbeats 8000000 in
set_option maxRecDepth 100000 in
theorem spec_SampleOk.calls (k : Nat) (a0_0 : ByteArray) (a0_1 : ByteArray) (a0_2 : Int) (a0_3 : Int) (r : Bool) (w : World) (h : spec_SampleOk.f k a0_0 a0_1 a0_2 a0_3 = some r) :
 Calls Try.prog 92 #[.agg #[.string a0_0, .string a0_1, .int .i64 a0_2, .int .i64 a0_3]] w fun e w' => e = .returned (.bool r) ∧ Below w.heap.size w w' := by
 have hu30 := Try.underlying30
 have HB := Aside0.mk (Below.refl w.heap.size w)
 have H : ((spec_NameOk.f k a0_0).bind fun t516 => (if t516 = true then ((spec_NameOk.f k a0_1).bind fun t517 => (if t517 = true then ((spec_l01Amt.f a0_2).bind fun t518 => (if t518 = true then ((spec_l02Tick.f a0_3).bind fun t519 => (some t519)) else (some false))) else (some false))) else (some false))) = some r := h
 clear h
 obtain ⟨t516, A20, H⟩ := bo H
 have A2 := Aside0.mk A20
 clear A20
 by_cases c3 : t516 = true
 · subst c3
   replace H := iT H
   obtain ⟨t517, A40, H⟩ := bo H
   have A4 := Aside0.mk A40
   clear A40
   by_cases c5 : t517 = true
   · subst c5
     replace H := iT H
     obtain ⟨t518, A60, H⟩ := bo H
     have A6 := Aside0.mk A60
     clear A60
     by_cases c7 : t518 = true
     · subst c7
       replace H := iT H
       obtain ⟨t519, A80, H⟩ := bo H
       have A8 := Aside0.mk A80
       clear A80
       obtain rfl := Option.some.inj H
       go_enter Try.func92, Try.ntmps92
       go_wp2_with (first | ((with_reducible refine gate_dst (N := 1) rfl ?_); refine bx 1 #[.string a0_0, .string a0_1, .int .i64 a0_2, .int .i64 a0_3] 30 ?_; intro gb515 hg w9 hbox hb; have BK515 := ak hbox; have GW515 := gs hg bl; have GE515 := gs hg bl; replace HB := ak (below_step bl hb); clear hb hbox hg; obtain ⟨hcz10_0, hcz10_1, hcz10_2, hcz10_3, hfz10_0, hfz10_1, hfz10_2, hfz10_3⟩ := cz4 BK515) | ((with_reducible refine gate_callee (f := 68) rfl ?_); refine gl (some 5) Try.func68 #[.string a0_0] ?_; (with_reducible refine (spec_NameOk.calls k a0_0 true _ A2.out).mono ?_); rintro e w' ⟨rfl, ⟨nd, rfl⟩⟩; refine ⟨_, rfl, ?_⟩) | (go_at_call 68; (with_reducible refine (spec_NameOk.calls k a0_1 true _ A4.out).mono ?_); rintro e w' ⟨rfl, ⟨nd, rfl⟩⟩) | (go_at_call 72; (with_reducible refine (spec_l01Amt.calls a0_2 true _ A6.out).mono ?_); rintro e w' ⟨rfl, ⟨nd, rfl⟩⟩) | (go_at_call 71; (with_reducible refine (spec_l02Tick.calls a0_3 t519 _ A8.out).mono ?_); rintro e w' ⟨rfl, ⟨nd, rfl⟩⟩))
       go_ret
       exact ⟨ew, bl1 GE515⟩
     · replace c7 := Bool.eq_false_iff.mpr c7
       subst c7
       replace H := iF H
       obtain rfl := Option.some.inj H
       go_enter Try.func92, Try.ntmps92
       go_wp2_with (first | ((with_reducible refine gate_dst (N := 1) rfl ?_); refine bx 1 #[.string a0_0, .string a0_1, .int .i64 a0_2, .int .i64 a0_3] 30 ?_; intro gb515 hg w11 hbox hb; have BK515 := ak hbox; have GW515 := gs hg bl; have GE515 := gs hg bl; replace HB := ak (below_step bl hb); clear hb hbox hg; obtain ⟨hcz12_0, hcz12_1, hcz12_2, hcz12_3, hfz12_0, hfz12_1, hfz12_2, hfz12_3⟩ := cz4 BK515) | ((with_reducible refine gate_callee (f := 68) rfl ?_); refine gl (some 5) Try.func68 #[.string a0_0] ?_; (with_reducible refine (spec_NameOk.calls k a0_0 true _ A2.out).mono ?_); rintro e w' ⟨rfl, ⟨nd, rfl⟩⟩; refine ⟨_, rfl, ?_⟩) | (go_at_call 68; (with_reducible refine (spec_NameOk.calls k a0_1 true _ A4.out).mono ?_); rintro e w' ⟨rfl, ⟨nd, rfl⟩⟩) | (go_at_call 72; (with_reducible refine (spec_l01Amt.calls a0_2 false _ A6.out).mono ?_); rintro e w' ⟨rfl, ⟨nd, rfl⟩⟩))
       go_ret
       exact ⟨ew, bl1 GE515⟩
   · replace c5 := Bool.eq_false_iff.mpr c5
     subst c5
     replace H := iF H
     obtain rfl := Option.some.inj H
     go_enter Try.func92, Try.ntmps92
     go_wp2_with (first | ((with_reducible refine gate_dst (N := 1) rfl ?_); refine bx 1 #[.string a0_0, .string a0_1, .int .i64 a0_2, .int .i64 a0_3] 30 ?_; intro gb515 hg w13 hbox hb; have BK515 := ak hbox; have GW515 := gs hg bl; have GE515 := gs hg bl; replace HB := ak (below_step bl hb); clear hb hbox hg; obtain ⟨hcz14_0, hcz14_1, hcz14_2, hcz14_3, hfz14_0, hfz14_1, hfz14_2, hfz14_3⟩ := cz4 BK515) | ((with_reducible refine gate_callee (f := 68) rfl ?_); refine gl (some 5) Try.func68 #[.string a0_0] ?_; (with_reducible refine (spec_NameOk.calls k a0_0 true _ A2.out).mono ?_); rintro e w' ⟨rfl, ⟨nd, rfl⟩⟩; refine ⟨_, rfl, ?_⟩) | (go_at_call 68; (with_reducible refine (spec_NameOk.calls k a0_1 false _ A4.out).mono ?_); rintro e w' ⟨rfl, ⟨nd, rfl⟩⟩))
     go_ret
     exact ⟨ew, bl1 GE515⟩
 · replace c3 := Bool.eq_false_iff.mpr c3
   subst c3
   replace H := iF H
   obtain rfl := Option.some.inj H
   go_enter Try.func92, Try.ntmps92
   go_wp2_with (first | ((with_reducible refine gate_dst (N := 1) rfl ?_); refine bx 1 #[.string a0_0, .string a0_1, .int .i64 a0_2, .int .i64 a0_3] 30 ?_; intro gb515 hg w15 hbox hb; have BK515 := ak hbox; have GW515 := gs hg bl; have GE515 := gs hg bl; replace HB := ak (below_step bl hb); clear hb hbox hg; obtain ⟨hcz16_0, hcz16_1, hcz16_2, hcz16_3, hfz16_0, hfz16_1, hfz16_2, hfz16_3⟩ := cz4 BK515) | ((with_reducible refine gate_callee (f := 68) rfl ?_); refine gl (some 5) Try.func68 #[.string a0_0] ?_; (with_reducible refine (spec_NameOk.calls k a0_0 false _ A2.out).mono ?_); rintro e w' ⟨rfl, ⟨nd, rfl⟩⟩; refine ⟨_, rfl, ?_⟩))
   go_ret
   exact ⟨ew, bl1 GE515⟩

end Go.Proofs.Ytplekidnlofioaa.Q
namespace Go.Proofs.Ytplekidnlofioaa.Q
open Go.RowKit Go.Proofs.YtplekidnlofioaaW.PrintWords Go.Proofs.YtplekidnlofioaaW.PrintLast
set_option linter.unusedVariables false
set_option linter.unusedSimpArgs false
theorem spec_SampleOk_ev (a b : ByteArray) (v t : Int) : Ev (fun k => spec_SampleOk.f k a b v t) (smpOk a b v t) := by
  unfold spec_SampleOk.f smpOk
  refine Ev.bind (spec_NameOk_ev a) ?_
  cases nameOk a
  · simp only [if_neg no_ft, Bool.false_and]; exact Ev.now _
  · simp only [if_true, Bool.true_and]
    refine Ev.bind (spec_NameOk_ev b) ?_
    cases nameOk b
    · simp only [if_neg no_ft, Bool.false_and]; exact Ev.now _
    · simp only [if_true, Bool.true_and, l02Tick_v, l01Amt_v, Option.bind_some]
      cases inB v 0 1000000000
      · simp only [if_neg no_ft, Bool.false_and]; exact Ev.now _
      · simp only [if_true, Bool.true_and]; exact Ev.now _
theorem less_trans : ∀ {x y z : List UInt8}, Op.bytesLess x y = true → Op.bytesLess y z = true → Op.bytesLess x z = true
  | _, [], _, h, _ => by simp [Op.bytesLess] at h
  | _, _ :: _, [], _, h => by simp [Op.bytesLess] at h
  | [], _ :: _, _ :: _, _, _ => rfl
  | a :: x, b :: y, c :: z, h1, h2 => by
    simp only [Op.bytesLess, Bool.or_eq_true, decide_eq_true_eq, Bool.and_eq_true, beq_iff_eq] at h1 h2 ⊢
    rcases h1 with h1 | ⟨rfl, h1⟩
    · rcases h2 with h2 | ⟨rfl, h2⟩
      · exact .inl (UInt8.lt_trans h1 h2)
      · exact .inl h1
    · rcases h2 with h2 | ⟨rfl, h2⟩
      · exact .inl h2
      · exact .inr ⟨rfl, less_trans h1 h2⟩
theorem less_total : ∀ {x y : List UInt8}, Op.bytesLess x y = false → x ≠ y → Op.bytesLess y x = true
  | [], [], _, h => absurd rfl h
  | [], _ :: _, h, _ => by simp [Op.bytesLess] at h
  | _ :: _, [], _, _ => rfl
  | a :: x, b :: y, h, hn => by
    simp only [Op.bytesLess, Bool.or_eq_false_iff, decide_eq_false_iff_not, Bool.and_eq_false_iff, beq_eq_false_iff_ne] at h
    simp only [Op.bytesLess, Bool.or_eq_true, decide_eq_true_eq, Bool.and_eq_true, beq_iff_eq]
    by_cases e : a = b
    · subst e
      refine .inr ⟨rfl, less_total (h.2.resolve_left (fun h => h rfl)) (fun e => hn (by rw [e]))⟩
    · refine .inl ?_
      have h1 := h.1
      rw [UInt8.lt_iff_toNat_lt] at h1 ⊢
      have : a.toNat ≠ b.toNat := fun h2 => e (UInt8.toNat_inj.1 h2)
      omega
theorem befB_trans {a b c d e f : ByteArray} (h1 : befB a b c d = true) (h2 : befB c d e f = true) : befB a b e f = true := by
  unfold befB lessB at *
  by_cases e1 : a.toList = c.toList
  · rw [if_pos e1] at h1
    by_cases e2 : c.toList = e.toList
    · rw [if_pos e2] at h2
      rw [if_pos (e1.trans e2)]
      exact less_trans h1 h2
    · rw [if_neg e2] at h2
      rw [if_neg (fun h => e2 (e1.symm.trans h)), e1]
      exact h2
  · rw [if_neg e1] at h1
    by_cases e2 : c.toList = e.toList
    · rw [if_neg (fun h => e1 (h.trans e2.symm)), ← e2]
      exact h1
    · rw [if_neg e2] at h2
      have h3 := less_trans h1 h2
      rw [if_neg (fun h => by rw [h, less_irrefl] at h3; cases h3)]
      exact h3
theorem befB_irrefl (a b : ByteArray) : befB a b a b = false := by
  unfold befB lessB
  rw [if_pos rfl]
  exact less_irrefl _
theorem befB_total {a b c d : ByteArray} (h : befB a b c d = false) (hn : ¬ (a.toList = c.toList ∧ b.toList = d.toList)) : befB c d a b = true := by
  unfold befB lessB at *
  by_cases e1 : a.toList = c.toList
  · rw [if_pos e1] at h
    rw [if_pos e1.symm]
    exact less_total h (fun e => hn ⟨e1, e⟩)
  · rw [if_neg e1] at h
    rw [if_neg (fun e => e1 e.symm)]
    exact less_total h e1
theorem cmpS_lt (a b c d : ByteArray) : cmpS a b c d < 0 ↔ befB a b c d = true := by
  have := cmpS_neg a b c d
  cases h : befB a b c d with
  | true =>
    rw [h] at this
    have h2 := of_decide_eq_false this
    exact ⟨fun _ => rfl, fun _ => by omega⟩
  | false =>
    rw [h] at this
    have h2 := of_decide_eq_true this
    exact ⟨fun h => by omega, fun h => by cases h⟩
theorem cmpS_zero (a b c d : ByteArray) : cmpS a b c d = 0 ↔ a.toList = c.toList ∧ b.toList = d.toList := by
  unfold cmpS
  by_cases h : cmpB a c = 0
  · rw [if_pos h, cmpB_zero]
    exact ⟨fun h2 => ⟨(cmpB_zero a c).1 h, h2⟩, fun h2 => h2.2⟩
  · rw [if_neg h]
    exact ⟨fun h2 => absurd h2 h, fun h2 => absurd ((cmpB_zero a c).2 h2.1) h⟩
theorem stFrom_chain : ∀ (r : List S81) (x : S81), stFrom (some x) r = true → ∀ y ∈ r, befB x.f0 x.f1 y.f0 y.f1 = true
  | [], _, _, y, hy => by cases hy
  | z :: r, x, h, y, hy => by
    simp only [stFrom, Bool.and_eq_true] at h
    rcases List.mem_cons.1 hy with rfl | hy
    · exact h.1.2
    · exact befB_trans h.1.2 (stFrom_chain r z h.2 y hy)
theorem stFrom_pre : ∀ (pre : List S81) (prev : Option S81) (s : S81) (r : List S81), stFrom prev (pre ++ s :: r) = true → ∀ y ∈ pre, befB y.f0 y.f1 s.f0 s.f1 = true
  | [], _, _, _, _, y, hy => by cases hy
  | x :: pre, prev, s, r, h, y, hy => by
    simp only [List.cons_append, stFrom, Bool.and_eq_true] at h
    rcases List.mem_cons.1 hy with rfl | hy
    · exact stFrom_chain _ _ h.2 s (List.mem_append_right _ List.mem_cons_self)
    · exact stFrom_pre pre _ s r h.2 y hy
theorem storeOk_from {l : List S81} (h : storeOk l = true) : stFrom none l = true := by
  simp only [storeOk, Bool.and_eq_true] at h
  exact h.2
theorem isNamed_eq {a b : ByteArray} {s : S81} : isNamed a b s = true ↔ s.f0.toList = a.toList ∧ s.f1.toList = b.toList := by
  simp only [isNamed, Bool.and_eq_true, decide_eq_true_eq]
theorem split_at {α : Type} {l : List α} {j : Nat} {s : α} (h : l[j]? = some s) : l = l.take j ++ s :: l.drop (j + 1) ∧ (l.take j).length = j := by
  obtain ⟨h1, rfl⟩ := List.getElem?_eq_some_iff.1 h
  exact ⟨by rw [← List.drop_eq_getElem_cons h1, List.take_append_drop], by rw [List.length_take]; omega⟩
theorem find_pre {l : List S81} {a b : ByteArray} {j : Nat} {s : S81} (hs : storeOk l = true) (hj : l[j]? = some s) (hn : isNamed a b s = true) : ∀ y ∈ l.take j, cmpS y.f0 y.f1 a b < 0 := by
  intro y hy
  have h := stFrom_pre (l.take j) none s (l.drop (j + 1)) (by rw [← (split_at hj).1]; exact storeOk_from hs) y hy
  obtain ⟨e1, e2⟩ := isNamed_eq.1 hn
  rw [cmpS_lt]
  unfold befB lessB at *
  rw [← e1, ← e2]
  exact h
def insB (a b : ByteArray) (one : S81) : List S81 → List S81
  | [] => [one]
  | s :: r => if befB a b s.f0 s.f1 = true then one :: s :: r else s :: insB a b one r
theorem insB_eq {a b : ByteArray} {one : S81} : ∀ {l : List S81}, (∀ y ∈ l, befB a b y.f0 y.f1 = !ltS a b y) → insB a b one l = l.takeWhile (ltS a b) ++ one :: l.dropWhile (ltS a b)
  | [], _ => rfl
  | s :: r, h => by
    have hs := h s List.mem_cons_self
    have ih := insB_eq (one := one) (l := r) (fun y hy => h y (List.mem_cons_of_mem _ hy))
    cases hl : ltS a b s with
    | true =>
      rw [hl] at hs
      simp only [insB, hs, List.takeWhile, List.dropWhile, hl, List.cons_append, ih]
      rfl
    | false =>
      rw [hl] at hs
      simp only [insB, hs, List.takeWhile, List.dropWhile, hl]
      rfl
theorem none_bef {l : List S81} {a b : ByteArray} (h : l.find? (isNamed a b) = none) : ∀ y ∈ l, cmpS y.f0 y.f1 a b ≠ 0 ∧ befB a b y.f0 y.f1 = !ltS a b y := by
  intro y hy
  have hn : ¬ (y.f0.toList = a.toList ∧ y.f1.toList = b.toList) := fun e => by
    have := List.find?_eq_none.1 h y hy
    exact this (isNamed_eq.2 e)
  refine ⟨fun e => hn ((cmpS_zero _ _ _ _).1 e), ?_⟩
  unfold ltS
  cases hb : befB y.f0 y.f1 a b with
  | true =>
    rw [decide_eq_true ((cmpS_lt _ _ _ _).2 hb)]
    cases hc : befB a b y.f0 y.f1 with
    | true => have := befB_trans hb hc; rw [befB_irrefl] at this; cases this
    | false => rfl
  | false =>
    rw [decide_eq_false (fun h => by rw [(cmpS_lt _ _ _ _).1 h] at hb; cases hb), befB_total hb hn]
    rfl
theorem mem_tw {α : Type} {p : α → Bool} : ∀ {l : List α} {y : α}, y ∈ l.takeWhile p → p y = true
  | [], y, h => by cases h
  | x :: r, y, h => by
    cases hp : p x with
    | false => rw [List.takeWhile_cons, hp] at h; cases h
    | true =>
      rw [List.takeWhile_cons, hp] at h
      rcases List.mem_cons.1 h with rfl | h
      · exact hp
      · exact mem_tw h
section
variable {l : List S81} {s : S81} {a b : ByteArray} {v t : Int} {j : Nat}
theorem and_l {x y : Bool} (h : (x && y) = true) : x = true := by cases x <;> simp_all
theorem putV_s_old (hok : (storeOk l && smpOk a b v t) = true) (hj : l[j]? = some s) (hn : isNamed a b s = true) (h3 : t ≤ lastAt s.f2) : putV l a b v t = (l, 1) :=
  putV_old hok (split_at hj).1 (find_pre (and_l hok) hj hn) ((cmpS_zero _ _ _ _).2 (isNamed_eq.1 hn)) h3
theorem putV_s_done (hok : (storeOk l && smpOk a b v t) = true) (hj : l[j]? = some s) (hn : isNamed a b s = true) (h3 : ¬ t ≤ lastAt s.f2) : putV l a b v t = (l.set j ⟨s.f0, s.f1, pushP s.f2 ⟨t, v⟩⟩, 0) := by
  obtain ⟨h1, h2⟩ := split_at hj
  rw [putV_done hok h1 (find_pre (and_l hok) hj hn) ((cmpS_zero _ _ _ _).2 (isNamed_eq.1 hn)) h3]
  congr 1
  have h4 : (l.take j ++ s :: l.drop (j + 1)).set (l.take j).length (⟨s.f0, s.f1, pushP s.f2 ⟨t, v⟩⟩ : S81) = l.take j ++ (⟨s.f0, s.f1, pushP s.f2 ⟨t, v⟩⟩ : S81) :: l.drop (j + 1) := by simp
  rw [← h1, h2] at h4
  exact h4.symm
theorem none_split (hf : l.find? (isNamed a b) = none) : l = l.takeWhile (ltS a b) ++ l.dropWhile (ltS a b) ∧ (∀ y ∈ l.takeWhile (ltS a b), cmpS y.f0 y.f1 a b < 0) ∧ ∀ s r, l.dropWhile (ltS a b) = s :: r → 0 < cmpS s.f0 s.f1 a b := by
  refine ⟨List.takeWhile_append_dropWhile.symm, fun y hy => ?_, fun s r e => ?_⟩
  · have := mem_tw hy
    exact of_decide_eq_true this
  · have hm : s ∈ l := by
      have := (List.dropWhile_sublist (ltS a b) (l := l)).subset (by rw [e]; exact List.mem_cons_self : s ∈ l.dropWhile (ltS a b))
      exact this
    have h1 := (none_bef hf s hm).1
    have h2 : ltS a b s = false := by
      have := List.head?_dropWhile_not (ltS a b) l
      rw [e] at this
      simpa using this
    have h3 := of_decide_eq_false h2
    omega
theorem putV_s_full (hok : (storeOk l && smpOk a b v t) = true) (hf : l.find? (isNamed a b) = none) (h3 : l.length = 24) : putV l a b v t = (l, 2) := by
  obtain ⟨h1, h2, h4⟩ := none_split hf
  exact putV_full hok h1 h2 h4 h3
theorem putV_s_ins (hok : (storeOk l && smpOk a b v t) = true) (hf : l.find? (isNamed a b) = none) (h3 : ¬ l.length = 24) : putV l a b v t = (insB a b ⟨a, b, [⟨t, v⟩]⟩ l, 0) := by
  obtain ⟨h1, h2, h4⟩ := none_split hf
  rw [putV_ins hok h1 h2 h4 h3, insB_eq (fun y hy => (none_bef hf y hy).2)]
  have e1 : l.take (l.takeWhile (ltS a b)).length = l.takeWhile (ltS a b) := by
    have := List.take_left (l₁ := l.takeWhile (ltS a b)) (l₂ := l.dropWhile (ltS a b))
    rwa [← h1] at this
  have e2 : l.drop (l.takeWhile (ltS a b)).length = l.dropWhile (ltS a b) := by
    have := List.drop_left (l₁ := l.takeWhile (ltS a b)) (l₂ := l.dropWhile (ltS a b))
    rwa [← h1] at this
  rw [e1, e2]
end
end Go.Proofs.Ytplekidnlofioaa.Q
