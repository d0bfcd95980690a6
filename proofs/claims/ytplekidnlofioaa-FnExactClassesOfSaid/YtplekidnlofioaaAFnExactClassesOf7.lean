/- Part 7 of the proof of FnExactClassesOf: contracts of the functions that it reaches, printed and by hand, and what they come to in plain Lean. -/
import Derived.Test.YtplekidnlofioaaAFnExactClassesOf2
import Derived.Test.YtplekidnlofioaaAFnExactClassesOf6
import Derived.KernelRfl
import Derived.Test.YtplekidnlofioaaAFnExactClassesOf5
import Derived.Test.YtplekidnlofioaaAFnExactClassesOf4
namespace Go.Proofs.Ytplekidnlofioaa.Q
open Go.RowKit Go.Proofs.Ytplekidnlofioaa.Opens Go.Proofs.YtplekidnlofioaaW.PrintWords
structure S56 where
  f0 : Int
  f1 : Int
  f2 : Int
def z56 : S56 := ⟨(0 : Int), (0 : Int), (0 : Int)⟩
def k56 : Kd S56 := Kd.iso (Kd.pair (Kd.int .i64) (Kd.pair (Kd.int .i64) (Kd.int .i64))) (fun x : S56 => (x.f0, x.f1, x.f2))
theorem k56_open {w : World} {x : S56} {cs : List Value} (h : k56.K w x cs) : cs = [.int .i64 x.f0, .int .i64 x.f1, .int .i64 x.f2] := by
  obtain ⟨_, _, rfl, rfl, ⟨_, _, rfl, rfl, rfl⟩⟩ := h
  exact rfl
instance : Inhabited S37 := ⟨z37⟩
instance : Inhabited S81 := ⟨z81⟩
instance : Inhabited S219 := ⟨z219⟩
def ok219 (y : S219) : Prop := okI .i64 y.f0 ∧ okI .i64 y.f1
theorem opn219 : Opn Try.prog k219 219 ok219 := by
  refine opn_struct (ok := fun p => okI .i64 p.1 ∧ okI .i64 p.2) ?_ Try.underlying219 (by kernel_rfl) (fun x : S219 => (x.f0, x.f1)) (fun p => ⟨p.1, p.2⟩) (fun _ => rfl)
  refine opnF_cons' (P := Try.prog) (ok' := fun (p : Int) => okI .i64 p) (opn_int Try.underlying3) (by kernel_rfl) (by rfl) (by rfl) ?_
  exact opnF_one' (P := Try.prog) (opn_int Try.underlying3) (by kernel_rfl) (by rfl) (by rfl)
instance : Inhabited S137 := ⟨z137⟩
def ok137 (y : S137) : Prop := okS y.f0 ∧ okS y.f1 ∧ okL 16 ok219 y.f2
theorem opn137 : Opn Try.prog k137 137 ok137 := by
  refine opn_struct (ok := fun p => okS p.1 ∧ okS p.2.1 ∧ okL 16 ok219 p.2.2) ?_ Try.underlying137 (by kernel_rfl) (fun x : S137 => (x.f0, x.f1, x.f2)) (fun p => ⟨p.1, p.2.1, p.2.2⟩) (fun _ => rfl)
  refine opnF_cons' (P := Try.prog) (ok' := fun (p : ByteArray × List (S219)) => okS p.1 ∧ okL 16 ok219 p.2) (opn_string Try.underlying9) (by kernel_rfl) (by rfl) (by rfl) ?_
  refine opnF_cons' (P := Try.prog) (ok' := fun (p : List (S219)) => okL 16 ok219 p) (opn_string Try.underlying9) (by kernel_rfl) (by rfl) (by rfl) ?_
  exact opnF_one' (P := Try.prog) (opn_slice opn219 Try.underlying135 (by kernel_rfl) (B := 16) (by kernel_rfl) 219) (by kernel_rfl) (by rfl) (by rfl)
instance : Inhabited S144 := ⟨z144⟩
def ok144 (y : S144) : Prop := okS y.f0 ∧ okI .i64 y.f1 ∧ okI .i64 y.f2 ∧ okB y.f3
theorem opn144 : Opn Try.prog k144 144 ok144 := by
  refine opn_struct (ok := fun p => okS p.1 ∧ okI .i64 p.2.1 ∧ okI .i64 p.2.2.1 ∧ okB p.2.2.2) ?_ Try.underlying144 (by kernel_rfl) (fun x : S144 => (x.f0, x.f1, x.f2, x.f3)) (fun p => ⟨p.1, p.2.1, p.2.2.1, p.2.2.2⟩) (fun _ => rfl)
  refine opnF_cons' (P := Try.prog) (ok' := fun (p : Int × Int × Bool) => okI .i64 p.1 ∧ okI .i64 p.2.1 ∧ okB p.2.2) (opn_string Try.underlying9) (by kernel_rfl) (by rfl) (by rfl) ?_
  refine opnF_cons' (P := Try.prog) (ok' := fun (p : Int × Bool) => okI .i64 p.1 ∧ okB p.2) (opn_int Try.underlying3) (by kernel_rfl) (by rfl) (by rfl) ?_
  refine opnF_cons' (P := Try.prog) (ok' := fun (p : Bool) => okB p) (opn_int Try.underlying3) (by kernel_rfl) (by rfl) (by rfl) ?_
  exact opnF_one' (P := Try.prog) (opn_bool Try.underlying4) (by kernel_rfl) (by rfl) (by rfl)
instance : Inhabited S147 := ⟨z147⟩
instance : Inhabited S30 := ⟨z30⟩
instance : Inhabited S68 := ⟨z68⟩
instance : Inhabited S223 := ⟨z223⟩
instance : Inhabited S239 := ⟨z239⟩
instance : Inhabited S208 := ⟨z208⟩
instance : Inhabited S210 := ⟨z210⟩
instance : Inhabited S234 := ⟨z234⟩
instance : Inhabited S204 := ⟨z204⟩
instance : Inhabited S167 := ⟨z167⟩
instance : Inhabited S169 := ⟨z169⟩
instance : Inhabited S56 := ⟨z56⟩
def ok56 (y : S56) : Prop := okI .i64 y.f0 ∧ okI .i64 y.f1 ∧ okI .i64 y.f2
theorem opn56 : Opn Try.prog k56 56 ok56 := by
  refine opn_struct (ok := fun p => okI .i64 p.1 ∧ okI .i64 p.2.1 ∧ okI .i64 p.2.2) ?_ Try.underlying56 (by kernel_rfl) (fun x : S56 => (x.f0, x.f1, x.f2)) (fun p => ⟨p.1, p.2.1, p.2.2⟩) (fun _ => rfl)
  refine opnF_cons' (P := Try.prog) (ok' := fun (p : Int × Int) => okI .i64 p.1 ∧ okI .i64 p.2) (opn_int Try.underlying3) (by kernel_rfl) (by rfl) (by rfl) ?_
  refine opnF_cons' (P := Try.prog) (ok' := fun (p : Int) => okI .i64 p) (opn_int Try.underlying3) (by kernel_rfl) (by rfl) (by rfl) ?_
  exact opnF_one' (P := Try.prog) (opn_int Try.underlying3) (by kernel_rfl) (by rfl) (by rfl)
end Go.Proofs.Ytplekidnlofioaa.Q
namespace Go.Proofs.Ytplekidnlofioaa.Q
open Go.Proofs.Ytplekidnlofioaa.Opens Go.RowKit Go.Proofs.YtplekidnlofioaaW.PrintWords Go.Proofs.YtplekidnlofioaaW.PrintLast
set_option linter.unusedVariables false
set_option linter.unusedSimpArgs false
section
variable {α : Type} {d : Kd α} {e b lo hi lo2 hi2 n c : Nat} {w W W' : World} {A : Option Addr} {v : Value} {l : List α} {ok : Nat → Prop}
/-- A row of rows whose blocks are lo .. hi - 1. -/
def IvS (d : Kd α) (e b lo hi : Nat) (W : World) (v : Value) (l : List α) : Prop := Kd.S d e W b (fun k => lo ≤ k ∧ k < hi) v l
/-- A row whose blocks are lo .. hi - 1. -/
def IvR (d : Kd α) (e b lo hi : Nat) (W : World) (v : Value) (l : List α) : Prop := Kd.R d e W b (fun k => lo ≤ k ∧ k < hi) v l
theorem ivS_new (h : Kd.S d e W' W.heap.size ok v l) (hb : w.heap.size ≤ W.heap.size) : IvS d e w.heap.size W.heap.size W'.heap.size W' v l :=
  Kd.S_lower (Kd.S_mono (Kd.S_bound h) (fun k hk => ⟨hk.2.1, hk.2.2.1⟩)) hb
theorem ivS_below (h : IvS d e b lo hi W v l) (hb : Below W.heap.size W W') : IvS d e b lo hi W' v l := Kd.S_below h hb
theorem ivS_kept (h : IvS d e b lo hi W v l) (hk : Kept W W' (fun k => lo2 ≤ k ∧ k < hi2)) (hd : hi ≤ lo2 ∨ hi2 ≤ lo) : IvS d e b lo hi W' v l :=
  Kd.S_kept h hk (fun k h1 h2 => by omega)
theorem ivS_read (h : IvS d e b lo hi W (.slice A n c) l) : Kd.C d W A l.length l := (Kd.S_reads' h).2.2
theorem ivS_room (h : IvS d e b lo hi W (.slice A l.length c) l) : l.length ≤ c := (Kd.S_reads' h).2.1
/-- What is only read, and what it leads to, lies in blocks lo .. hi - 1. -/
def IvF (d : Kd α) (lo hi : Nat) (W : World) (A : Option Addr) (l : List α) : Prop := Kd.F d W (fun k => lo ≤ k ∧ k < hi) A l.length l
theorem ivF_new (h : Kd.N d e W' W.heap.size (fun k => W.heap.size ≤ k) (.slice A n c) l) : IvF d W.heap.size W'.heap.size W' A l := by
  have := Kd.N_F (Kd.N_bound h)
  rw [(Kd.N_reads' h).1] at this
  exact this
theorem ivF_below (h : IvF d lo hi W A l) (hb : Below W.heap.size W W') : IvF d lo hi W' A l := Kd.F_below h hb
theorem ivF_kept (h : IvF d lo hi W A l) (hk : Kept W W' (fun k => lo2 ≤ k ∧ k < hi2)) (hd : hi ≤ lo2 ∨ hi2 ≤ lo) : IvF d lo hi W' A l := Kd.F_kept h hk (fun k h1 h2 => by omega)
theorem ivF_read (h : IvF d lo hi W A l) : Kd.C d W A l.length l := Kd.F_now h
theorem ivR_new (h : Kd.R d e W' W.heap.size ok v l) (hb : w.heap.size ≤ W.heap.size) : IvR d e w.heap.size W.heap.size W'.heap.size W' v l :=
  Kd.R_lower (Kd.R_mono (Kd.R_bound h) (fun k hk => ⟨hk.2.1, hk.2.2.1⟩)) hb
theorem ivR_below (h : IvR d e b lo hi W v l) (hb : Below W.heap.size W W') : IvR d e b lo hi W' v l := Kd.R_below h hb
theorem ivR_kept (h : IvR d e b lo hi W v l) (hk : Kept W W' (fun k => lo2 ≤ k ∧ k < hi2)) (hd : hi ≤ lo2 ∨ hi2 ≤ lo) : IvR d e b lo hi W' v l :=
  Kd.R_kept h hk (fun k h1 h2 => by omega)
theorem ivR_read (h : IvR d e b lo hi W (.slice A n c) l) : Kd.C d W A l.length l := (Kd.R_reads' h).2.2
theorem ivR_room (h : IvR d e b lo hi W (.slice A l.length c) l) : l.length ≤ c := (Kd.R_reads' h).2.1
end
theorem drawn_below {w w' : World} (h : Drawn0 w w') : Below w.heap.size w w' := by
  obtain ⟨n, rfl⟩ := h.out
  exact pw_below_drewN (Below.refl _ _) n
theorem big_ofT {l : List ByteArray} (h : okL 16 okS l) : l.length ≤ 140737488351232 ∧ ∀ s ∈ l, s.size ≤ 140737488351232 := by
  have e : reachBytes = 140737488351232 := rfl
  refine ⟨by have := h.1; rw [e] at this; omega, fun s hs => ?_⟩
  have := h.2 s hs
  unfold okS at this
  rw [e] at this
  exact this
theorem heldS_calls (A : Option Addr) (c : Nat) (l : List S81) (w : World) (hr : Kd.C k81 w A l.length (markS 1 l)) (hc : l.length ≤ c) (h1 : 1 + mkN l ≤ 4611686018427387000) (hl : l.length ≤ 4611686018427387000) :
    Calls Try.prog 26 #[.slice A l.length c, .int .i64 1] w fun e w' => e = .returned (.int .i64 (1 + mkN l)) ∧ Below w.heap.size w w' := by
  obtain ⟨k, hk⟩ := rounds_of (heldSeriesS_ev l 1 (by decide) h1 (by omega))
  have := laws_heldSeriesS.calls k A c (markS 1 l) 1 (1 + mkN l) w (by rw [markS_len]; exact hr) (by rw [markS_len]; exact hc) hk
  rw [markS_len] at this
  exact this
theorem wL_mem2 {l : List S137} {s : S137} (h : s ∈ l) : (s.f2.length : Int) ≤ wL l := by
  have := wL_mem h
  unfold wS at this
  omega
theorem mkN_toS : ∀ l : List S137, mkN (l.map toS) ≤ 2 * l.length + 2 * wL l
  | [] => by simp [mkN, wL]
  | s :: r => by
    have := mkN_toS r
    simp only [List.map_cons, mkN, wL, wS, List.length_cons, toS, List.length_map]
    omega
theorem big_ofS {l : List S137} (h : okL 56 ok137 l) : l.length ≤ 140737488351232 ∧ ∀ s ∈ l, bigS s := by
  have e : reachBytes = 140737488351232 := rfl
  refine ⟨by have := h.1; rw [e] at this; omega, fun s hs => ?_⟩
  obtain ⟨h1, h2, h3, _⟩ := h.2 s hs
  unfold okS at h1 h2
  rw [e] at h1 h2 h3
  exact ⟨h1, h2, by omega⟩
end Go.Proofs.Ytplekidnlofioaa.Q
namespace Go.Proofs.Ytplekidnlofioaa.Q
open Go.RowKit Go.Proofs.YtplekidnlofioaaW.PrintWords Go.Proofs.YtplekidnlofioaaW.PrintLast Go.Proofs.YtplekidnlofioaaW.PrintMore
attribute [local go_sem] max2_int min2_int max_two min_two max_three min_three max_four min_four   -- for this text's walks alone
set_option linter.unusedVariables false
set_option linter.unusedSimpArgs false

/-! ### laws_markPodS: function 39 -/
def laws_markPodS.l0 : Nat → List (S147) → Int → Int → Option (Int × (List (S147)))
 | 0, _, _, _ => none
 | k + 1, x0, x1, x5 => if x5 < (x0.length : Int) then ((laws_markText.f k x1).bind fun t469 => (if 0 ≤ x5 then ((some (x0.set (x5 : Int).toNat (⟨t469, (rd_T147 x0 x5).f1, (rd_T147 x0 x5).f2, (rd_T147 x0 x5).f3⟩ : S147) : List (S147))).bind fun y470 => ((some (y470.set (x5 : Int).toNat (⟨(rd_T147 y470 x5).f0, wrap64 (x1 + 1), (rd_T147 y470 x5).f2, (rd_T147 y470 x5).f3⟩ : S147) : List (S147))).bind fun y471 => ((some (y471.set (x5 : Int).toNat (⟨(rd_T147 y471 x5).f0, (rd_T147 y471 x5).f1, wrap64 ((wrap64 (x1 + 1)) + 1), (rd_T147 y471 x5).f3⟩ : S147) : List (S147))).bind fun y472 => (laws_markPodS.l0 k (y472.set (x5 : Int).toNat (⟨(rd_T147 y472 x5).f0, (rd_T147 y472 x5).f1, (rd_T147 y472 x5).f2, ((Int.tmod (wrap64 ((wrap64 ((wrap64 (x1 + 1)) + 1)) + 1)) 3) == 0)⟩ : S147)) (wrap64 ((wrap64 ((wrap64 ((wrap64 (x1 + 1)) + 1)) + 1)) + 1)) (wrap64 (x5 + 1)))))) else (none))) else (some (x1, x0))
def laws_markPodS.f (k : Nat) (l0 : List (S147)) (a1 : Int) : Option (Int × (List (S147))) := laws_markPodS.l0 k l0 a1 0
theorem laws_markPodS.mono_l : ∀ k, (∀ y0 y1 y2, LeO (laws_markPodS.l0 k y0 y1 y2) (laws_markPodS.l0 (k + 1) y0 y1 y2))
 | 0 => fun _ _ _ r h => by simp [laws_markPodS.l0] at h
 | k + 1 => by
  have ih0 := laws_markPodS.mono_l k
  · intro y0 y1 y2
    unfold laws_markPodS.l0
    repeat' first
    | (with_reducible exact ih0 _ _ _)
    | (with_reducible exact laws_markText.mono _ _)
    | (with_reducible exact LeO.refl _)
    | (with_reducible exact LeO.none _)
    | (with_reducible refine LeO.ite ?_ ?_)
    | (with_reducible refine LeO.bind ?_ (fun _ => ?_))
    | exact ih0 _ _ _
    | exact laws_markText.mono _ _
    | exact LeO.none _
    | refine LeO.ite ?_ ?_
    | refine LeO.bind ?_ (fun _ => ?_)
theorem laws_markPodS.mono : ∀ a0 a1 k, LeO (laws_markPodS.f k a0 a1) (laws_markPodS.f (k + 1) a0 a1) := by
 intro a0 a1 k
 have ih0 := laws_markPodS.mono_l k
 unfold laws_markPodS.f
 repeat' first
  | (with_reducible exact ih0 _ _ _)
  | (with_reducible exact laws_markText.mono _ _)
  | (with_reducible exact LeO.refl _)
  | (with_reducible exact LeO.none _)
  | (with_reducible refine LeO.ite ?_ ?_)
  | (with_reducible refine LeO.bind ?_ (fun _ => ?_))
  | exact ih0 _ _ _
  | exact laws_markText.mono _ _
  | exact LeO.none _
  | refine LeO.ite ?_ ?_
  | refine LeO.bind ?_ (fun _ => ?_)
set_option maxHeartbeats 8000000 in
set_option maxRecDepth 100000 in
theorem laws_markPodS.calls (k : Nat) (P0_ : Nat → Prop) (u9000_ : Value) (l0 : List (S147)) (a1 : Int) (r1 : Int) (r2 : List (S147)) (w0 w : World) (hB : Below w0.heap.size w0 w) (ho0 : Kd.R k147 147 w w0.heap.size P0_ u9000_ l0) (h : laws_markPodS.f k l0 a1 = some (r1, r2)) :
 Calls Try.prog 39 #[u9000_, .int .i64 a1] w fun e w' => e = .returned (.int .i64 r1) ∧ Kd.R k147 147 w' w0.heap.size (fun k_ => (P0_ k_ ∨ w.heap.size ≤ k_)) u9000_ r2 ∧ Below w0.heap.size w0 w' ∧ Kept w w' (fun k_ => P0_ k_) := by
 have HO0 := Aside0.mk (show Kd.R k147 147 w w0.heap.size (fun k_ => (P0_ k_ ∨ w.heap.size ≤ k_)) u9000_ l0 from Kd.R_mono ho0 (fun k_ hk => (.inl hk)))
 have HK := Aside0.mk (Kept.refl w (fun k_ => P0_ k_))
 have HW0 := Aside0.mk hB.size
 have HB := Aside0.mk hB
 clear hB
 have H : (laws_markPodS.l0 k l0 a1 0) = some (r1, r2) := h
 clear h
 have H' := Aside0.mk H
 clear H
 go_enter Try.func39, Try.ntmps39
 go_wp2
 go_loopg [1, 5] k (fun kq v1 v5 w' => ∃ (x0_1 : List (S147)) (x1_1 : Int) (x5_1 : Int), v1 = .int .i64 x1_1 ∧ v5 = .int .i64 x5_1 ∧ Aside0 (laws_markPodS.l0 kq x0_1 x1_1 x5_1 = some (r1, r2)) ∧ Aside0 (kq ≤ k) ∧ Aside0 (Kd.R k147 147 w' w0.heap.size (fun k_ => (P0_ k_ ∨ w.heap.size ≤ k_)) u9000_ x0_1) ∧ Aside0 (Kept w w' (fun k_ => P0_ k_)) ∧ Aside0 (Below w0.heap.size w0 w'))
 case atStart => exact ⟨(l0), (a1), (0), es, es, H', ⟨Nat.le_refl _⟩, ⟨kr HO0⟩, ⟨by repeat (first | (with_reducible first | exact HK.out | apply Kept.alloc | apply Kept.drewN | apply Kept.drew) | exact HK.out)⟩, ⟨bl⟩⟩
 case round =>
  clear H'
  try clear p2
  obtain ⟨x0_1, x1_1, x5_1, rfl, rfl, HA, HK1, HO_0, HK, HB⟩ := hrel
  cases gk with
  | zero => exact absurd HA.out (by simp [laws_markPodS.l0])
  | succ k1 =>
   have H := HA.out
   clear HA
   simp only [laws_markPodS.l0] at H
   by_cases c3 : x5_1 < (x0_1.length : Int)
   · rw [if_pos c3] at H
     have c3b0 : decide (x5_1 < (x0_1.length : Int)) = true := decide_eq_true c3
     clear c3
     obtain ⟨t469, A40, H⟩ := bo H
     have A4 := Aside0.mk A40
     clear A40
     by_cases c5 : 0 ≤ x5_1
     · rw [if_pos c5] at H
       have c5b0 : decide (0 ≤ x5_1) = true := decide_eq_true c5
       clear c5
       obtain ⟨y470, hy470⟩ : ∃ y_ : List (S147), y_ = (x0_1.set (x5_1 : Int).toNat (⟨t469, (rd_T147 x0_1 x5_1).f1, (rd_T147 x0_1 x5_1).f2, (rd_T147 x0_1 x5_1).f3⟩ : S147)) := ⟨_, rfl⟩
       replace H : ((some (y470.set (x5_1 : Int).toNat (⟨(rd_T147 y470 x5_1).f0, wrap64 (x1_1 + 1), (rd_T147 y470 x5_1).f2, (rd_T147 y470 x5_1).f3⟩ : S147) : List (S147))).bind fun y471 => ((some (y471.set (x5_1 : Int).toNat (⟨(rd_T147 y471 x5_1).f0, (rd_T147 y471 x5_1).f1, wrap64 ((wrap64 (x1_1 + 1)) + 1), (rd_T147 y471 x5_1).f3⟩ : S147) : List (S147))).bind fun y472 => (laws_markPodS.l0 k1 (y472.set (x5_1 : Int).toNat (⟨(rd_T147 y472 x5_1).f0, (rd_T147 y472 x5_1).f1, (rd_T147 y472 x5_1).f2, ((Int.tmod (wrap64 ((wrap64 ((wrap64 (x1_1 + 1)) + 1)) + 1)) 3) == 0)⟩ : S147)) (wrap64 ((wrap64 ((wrap64 ((wrap64 (x1_1 + 1)) + 1)) + 1)) + 1)) (wrap64 (x5_1 + 1))))) = some (r1, r2) := by first | (rw [hy470]; with_reducible exact H) | (have H2_ := (Option.bind_some _ _).symm.trans H; rw [hy470]; with_reducible exact H2_) | (have H2_ := (Option.bind_some _ _).symm.trans H; with_reducible exact H2_) | with_reducible exact H | (rw [hy470]; exact H) | exact H
       have Ny470 := Aside0.mk hy470
       clear hy470
       obtain ⟨y471, hy471⟩ : ∃ y_ : List (S147), y_ = (y470.set (x5_1 : Int).toNat (⟨(rd_T147 y470 x5_1).f0, wrap64 (x1_1 + 1), (rd_T147 y470 x5_1).f2, (rd_T147 y470 x5_1).f3⟩ : S147)) := ⟨_, rfl⟩
       replace H : ((some (y471.set (x5_1 : Int).toNat (⟨(rd_T147 y471 x5_1).f0, (rd_T147 y471 x5_1).f1, wrap64 ((wrap64 (x1_1 + 1)) + 1), (rd_T147 y471 x5_1).f3⟩ : S147) : List (S147))).bind fun y472 => (laws_markPodS.l0 k1 (y472.set (x5_1 : Int).toNat (⟨(rd_T147 y472 x5_1).f0, (rd_T147 y472 x5_1).f1, (rd_T147 y472 x5_1).f2, ((Int.tmod (wrap64 ((wrap64 ((wrap64 (x1_1 + 1)) + 1)) + 1)) 3) == 0)⟩ : S147)) (wrap64 ((wrap64 ((wrap64 ((wrap64 (x1_1 + 1)) + 1)) + 1)) + 1)) (wrap64 (x5_1 + 1)))) = some (r1, r2) := by first | (rw [hy471]; with_reducible exact H) | (have H2_ := (Option.bind_some _ _).symm.trans H; rw [hy471]; with_reducible exact H2_) | (have H2_ := (Option.bind_some _ _).symm.trans H; with_reducible exact H2_) | with_reducible exact H | (rw [hy471]; exact H) | exact H
       have Ny471 := Aside0.mk hy471
       clear hy471
       obtain ⟨y472, hy472⟩ : ∃ y_ : List (S147), y_ = (y471.set (x5_1 : Int).toNat (⟨(rd_T147 y471 x5_1).f0, (rd_T147 y471 x5_1).f1, wrap64 ((wrap64 (x1_1 + 1)) + 1), (rd_T147 y471 x5_1).f3⟩ : S147)) := ⟨_, rfl⟩
       replace H : (laws_markPodS.l0 k1 (y472.set (x5_1 : Int).toNat (⟨(rd_T147 y472 x5_1).f0, (rd_T147 y472 x5_1).f1, (rd_T147 y472 x5_1).f2, ((Int.tmod (wrap64 ((wrap64 ((wrap64 (x1_1 + 1)) + 1)) + 1)) 3) == 0)⟩ : S147)) (wrap64 ((wrap64 ((wrap64 ((wrap64 (x1_1 + 1)) + 1)) + 1)) + 1)) (wrap64 (x5_1 + 1))) = some (r1, r2) := by first | (rw [hy472]; with_reducible exact H) | (have H2_ := (Option.bind_some _ _).symm.trans H; rw [hy472]; with_reducible exact H2_) | (have H2_ := (Option.bind_some _ _).symm.trans H; with_reducible exact H2_) | with_reducible exact H | (rw [hy472]; exact H) | exact H
       have Ny472 := Aside0.mk hy472
       clear hy472
       obtain ⟨y473, hy473⟩ : ∃ y_ : List (S147), y_ = (y472.set (x5_1 : Int).toNat (⟨(rd_T147 y472 x5_1).f0, (rd_T147 y472 x5_1).f1, (rd_T147 y472 x5_1).f2, ((Int.tmod (wrap64 ((wrap64 ((wrap64 (x1_1 + 1)) + 1)) + 1)) 3) == 0)⟩ : S147)) := ⟨_, rfl⟩
       replace H : (laws_markPodS.l0 k1 y473 (wrap64 ((wrap64 ((wrap64 ((wrap64 (x1_1 + 1)) + 1)) + 1)) + 1)) (wrap64 (x5_1 + 1))) = some (r1, r2) := by first | (rw [hy473]; with_reducible exact H) | (have H2_ := (Option.bind_some _ _).symm.trans H; rw [hy473]; with_reducible exact H2_) | (have H2_ := (Option.bind_some _ _).symm.trans H; with_reducible exact H2_) | with_reducible exact H | (rw [hy473]; exact H) | exact H
       have Ny473 := Aside0.mk hy473
       clear hy473
       have H' := Aside0.mk H
       clear H
       obtain ⟨Ao10, co10, eo10⟩ := Kd.R_slice HO_0.out
       subst eo10
       go_wp2_with (first | ((with_reducible refine gate_callee (f := 82) rfl ?_); refine gl (some 15) Try.func82 #[.int .i64 x1_1] ?_; (with_reducible refine (laws_markText.calls k1 x1_1 t469 _ A4.out).mono ?_); rintro e w11 ⟨rfl, hb⟩; refine ⟨_, rfl, ?_⟩; replace HO_0 := ak (Kd.R_below (kr HO_0) hb); replace HK := ak (Kept.below (S := (fun k_ => P0_ k_)) (by repeat (first | (with_reducible first | exact HK.out | apply Kept.alloc | apply Kept.drewN | apply Kept.drew) | exact HK.out)) hb); replace HB := ak (below_step bl hb); (try clear hb); (try clear hb2); (try clear hk); (try clear hi); have p6 : 0 ≤ (x5_1 : Int) := of_decide_eq_true am; have q6 : (x5_1 : Int) < ((x0_1.length : Int) : Int) := of_decide_eq_true am; obtain ⟨go6, co6, eo6, gb6, gl6, cl6, HG6⟩ := Kd.R_form HO_0.out (by omega); (first | cases eo6 | (injection eo6 with ea_ en_ ec_; (first | subst ea_ | (injection ea_ with ea_; subst ea_)); subst ec_; clear en_)); have GB6 := Aside0.mk gb6; have GG6 := Aside0.mk HG6; clear gb6 gl6 HG6; have HMgo6 := Aside0.mk (show (P0_ go6 ∨ w.heap.size ≤ go6) from (HO_0.out.1 _ rfl)); obtain ⟨ce6, hcl6, hM6, hcc6, hfr6⟩ := Kd.R_elem HO_0.out z147 (x5_1 : Int) p6 q6; obtain rfl := k147_openM hM6; have hx6_0 : w11.cell? ⟨go6, (x5_1 : Int).toNat * 4, none⟩ = some (.string ((rd_T147 x0_1 x5_1).f0)) := hcc6 0 _ rfl; have hx6_1 : w11.cell? ⟨go6, (x5_1 : Int).toNat * 4 + 1, none⟩ = some (.int .i64 ((rd_T147 x0_1 x5_1).f1)) := hcc6 1 _ rfl; have hx6_2 : w11.cell? ⟨go6, (x5_1 : Int).toNat * 4 + 2, none⟩ = some (.int .i64 ((rd_T147 x0_1 x5_1).f2)) := hcc6 2 _ rfl; have hx6_3 : w11.cell? ⟨go6, (x5_1 : Int).toNat * 4 + 3, none⟩ = some (.bool ((rd_T147 x0_1 x5_1).f3)) := hcc6 3 _ rfl; have hf6_0 : w11.frozen? ⟨go6, (x5_1 : Int).toNat * 4, none⟩ = false := hfr6 0; have hf6_1 : w11.frozen? ⟨go6, (x5_1 : Int).toNat * 4 + 1, none⟩ = false := hfr6 1; have hf6_2 : w11.frozen? ⟨go6, (x5_1 : Int).toNat * 4 + 2, none⟩ = false := hfr6 2; have hf6_3 : w11.frozen? ⟨go6, (x5_1 : Int).toNat * 4 + 3, none⟩ = false := hfr6 3; clear hcl6 hcc6 hfr6 hM6; replace p6 := eq_true p6; replace q6 := eq_true q6; have HX12 := Aside0.mk (show Kd.R k147 147 w11 w0.heap.size (fun k_ => (P0_ k_ ∨ w.heap.size ≤ k_)) (.slice (some ⟨go6, 0, none⟩) x0_1.length co10) x0_1 from (kr HO_0)); obtain ⟨ce12, hcl12, hM12, hcc12, hfr12⟩ := Kd.R_elem HX12.out z147 (x5_1 : Int) (of_decide_eq_true am) (by have h_ : (x5_1 : Int) < ((x0_1.length : Int) : Int) := of_decide_eq_true am; first | exact h_ | (have e_ := (Kd.R_reads' HO_0.out).1; omega) | simpa using h_); obtain rfl := k147_openM hM12; have HP12 := Kd.R_seg HX12.out (x5_1 : Int) (of_decide_eq_true am) (by have h_ : (x5_1 : Int) < ((x0_1.length : Int) : Int) := of_decide_eq_true am; first | exact h_ | (have e_ := (Kd.R_reads' HO_0.out).1; omega) | simpa using h_) (seg := [.string t469]) (j := 0) hcl12 hcc12 (show 1 ≤ 4 from by decide) (x' := (⟨t469, (rd_T147 x0_1 x5_1).f1, (rd_T147 x0_1 x5_1).f2, (rd_T147 x0_1 x5_1).f3⟩ : S147)) (k147_mkM _ _ _ (⟨t469, (rd_T147 x0_1 x5_1).f1, (rd_T147 x0_1 x5_1).f2, (rd_T147 x0_1 x5_1).f3⟩ : S147) ) (fun _ hk => hk); have hx12_0 := hcc12 0 _ rfl; (try simp only [show (k147).sz = 4 from rfl, Nat.mul_one, Nat.add_zero] at hx12_0); have hf12_0 := hfr12 0; (try simp only [show (k147).sz = 4 from rfl, Nat.mul_one, Nat.add_zero] at hf12_0); clear hcl12 hcc12 hfr12 hM12) | ((with_reducible refine gate_store (t := 9) (p := 17) rfl ?_); refine store_event (t := 9) (p := 17) (v := ?vo_w13) (w1 := (w11.setCell ⟨go6, (x5_1 : Int).toNat * 4, none⟩ (.string t469))) ?hg ?ho ?hn ?hr ?_; (case ho => rfl); (case hg => rfl); (case hn => rfl); (case hr => first | (go_simp; done) | (go_simp; rfl)); intro w13 hw; have hg : w11.grownBy w13 (some go6) := (by rw [hw]; exact HP12.2); have hp_ : Kd.R k147 147 w13 w0.heap.size (fun k_ => (P0_ k_ ∨ w.heap.size ≤ k_)) (.slice (some ⟨go6, 0, none⟩) x0_1.length co10) y470 := (by rw [hw, Ny470.out]; exact HP12.1); clear HP12; replace HB := ak (by rw [hw]; exact below_set (HB.out) GB6.out : Below w0.heap.size w0 w13); replace HK := ak (Kept.of_grown (S := (fun k_ => P0_ k_)) hg (by repeat (first | (with_reducible first | exact HK.out | apply Kept.alloc | apply Kept.drewN | apply Kept.drew) | exact HK.out)) (fun k_ e_ => (HO_0.out.1 k_ e_))); replace HO_0 := ak hp_; clear hg hw hp_; have p7 : 0 ≤ (x5_1 : Int) := of_decide_eq_true am; have q7 : (x5_1 : Int) < ((x0_1.length : Int) : Int) := of_decide_eq_true am; obtain ⟨ce7, hcl7, hM7, hcc7, hfr7⟩ := Kd.R_elem HO_0.out z147 (x5_1 : Int) p7 q7; obtain rfl := k147_openM hM7; have hx7_0 : w13.cell? ⟨go6, (x5_1 : Int).toNat * 4, none⟩ = some (.string ((rd_T147 y470 x5_1).f0)) := hcc7 0 _ rfl; have hx7_1 : w13.cell? ⟨go6, (x5_1 : Int).toNat * 4 + 1, none⟩ = some (.int .i64 ((rd_T147 y470 x5_1).f1)) := hcc7 1 _ rfl; have hx7_2 : w13.cell? ⟨go6, (x5_1 : Int).toNat * 4 + 2, none⟩ = some (.int .i64 ((rd_T147 y470 x5_1).f2)) := hcc7 2 _ rfl; have hx7_3 : w13.cell? ⟨go6, (x5_1 : Int).toNat * 4 + 3, none⟩ = some (.bool ((rd_T147 y470 x5_1).f3)) := hcc7 3 _ rfl; have hf7_0 : w13.frozen? ⟨go6, (x5_1 : Int).toNat * 4, none⟩ = false := hfr7 0; have hf7_1 : w13.frozen? ⟨go6, (x5_1 : Int).toNat * 4 + 1, none⟩ = false := hfr7 1; have hf7_2 : w13.frozen? ⟨go6, (x5_1 : Int).toNat * 4 + 2, none⟩ = false := hfr7 2; have hf7_3 : w13.frozen? ⟨go6, (x5_1 : Int).toNat * 4 + 3, none⟩ = false := hfr7 3; clear hcl7 hcc7 hfr7 hM7; replace p7 := eq_true p7; replace q7 := eq_true q7; have HX14 := Aside0.mk (show Kd.R k147 147 w13 w0.heap.size (fun k_ => (P0_ k_ ∨ w.heap.size ≤ k_)) (.slice (some ⟨go6, 0, none⟩) x0_1.length co10) y470 from (kr HO_0)); obtain ⟨ce14, hcl14, hM14, hcc14, hfr14⟩ := Kd.R_elem HX14.out z147 (x5_1 : Int) (of_decide_eq_true am) (by have h_ : (x5_1 : Int) < ((x0_1.length : Int) : Int) := of_decide_eq_true am; first | exact h_ | (have e_ := (Kd.R_reads' HO_0.out).1; omega) | simpa using h_); obtain rfl := k147_openM hM14; have HP14 := Kd.R_seg HX14.out (x5_1 : Int) (of_decide_eq_true am) (by have h_ : (x5_1 : Int) < ((x0_1.length : Int) : Int) := of_decide_eq_true am; first | exact h_ | (have e_ := (Kd.R_reads' HO_0.out).1; omega) | simpa using h_) (seg := [.int .i64 (wrap64 (x1_1 + 1))]) (j := 1) hcl14 hcc14 (show 2 ≤ 4 from by decide) (x' := (⟨(rd_T147 y470 x5_1).f0, wrap64 (x1_1 + 1), (rd_T147 y470 x5_1).f2, (rd_T147 y470 x5_1).f3⟩ : S147)) (k147_mkM _ _ _ (⟨(rd_T147 y470 x5_1).f0, wrap64 (x1_1 + 1), (rd_T147 y470 x5_1).f2, (rd_T147 y470 x5_1).f3⟩ : S147) ) (fun _ hk => hk); have hx14_1 := hcc14 1 _ rfl; (try simp only [show (k147).sz = 4 from rfl, Nat.mul_one, Nat.add_zero] at hx14_1); have hf14_1 := hfr14 1; (try simp only [show (k147).sz = 4 from rfl, Nat.mul_one, Nat.add_zero] at hf14_1); clear hcl14 hcc14 hfr14 hM14) | ((with_reducible refine gate_store (t := 3) (p := 24) rfl ?_); refine store_event (t := 3) (p := 24) (v := ?vo_w15) (w1 := (w13.setCell ⟨go6, (x5_1 : Int).toNat * 4 + 1, none⟩ (.int .i64 (wrap64 (x1_1 + 1))))) ?hg ?ho ?hn ?hr ?_; (case ho => rfl); (case hg => rfl); (case hn => rfl); (case hr => first | (go_simp; done) | (go_simp; rfl)); intro w15 hw; have hg : w13.grownBy w15 (some go6) := (by rw [hw]; exact HP14.2); have hp_ : Kd.R k147 147 w15 w0.heap.size (fun k_ => (P0_ k_ ∨ w.heap.size ≤ k_)) (.slice (some ⟨go6, 0, none⟩) x0_1.length co10) y471 := (by rw [hw, Ny471.out]; exact HP14.1); clear HP14; replace HB := ak (by rw [hw]; exact below_set (HB.out) GB6.out : Below w0.heap.size w0 w15); replace HK := ak (Kept.of_grown (S := (fun k_ => P0_ k_)) hg (by repeat (first | (with_reducible first | exact HK.out | apply Kept.alloc | apply Kept.drewN | apply Kept.drew) | exact HK.out)) (fun k_ e_ => (HO_0.out.1 k_ e_))); replace HO_0 := ak hp_; clear hg hw hp_; have p8 : 0 ≤ (x5_1 : Int) := of_decide_eq_true am; have q8 : (x5_1 : Int) < ((x0_1.length : Int) : Int) := of_decide_eq_true am; obtain ⟨ce8, hcl8, hM8, hcc8, hfr8⟩ := Kd.R_elem HO_0.out z147 (x5_1 : Int) p8 q8; obtain rfl := k147_openM hM8; have hx8_0 : w15.cell? ⟨go6, (x5_1 : Int).toNat * 4, none⟩ = some (.string ((rd_T147 y471 x5_1).f0)) := hcc8 0 _ rfl; have hx8_1 : w15.cell? ⟨go6, (x5_1 : Int).toNat * 4 + 1, none⟩ = some (.int .i64 ((rd_T147 y471 x5_1).f1)) := hcc8 1 _ rfl; have hx8_2 : w15.cell? ⟨go6, (x5_1 : Int).toNat * 4 + 2, none⟩ = some (.int .i64 ((rd_T147 y471 x5_1).f2)) := hcc8 2 _ rfl; have hx8_3 : w15.cell? ⟨go6, (x5_1 : Int).toNat * 4 + 3, none⟩ = some (.bool ((rd_T147 y471 x5_1).f3)) := hcc8 3 _ rfl; have hf8_0 : w15.frozen? ⟨go6, (x5_1 : Int).toNat * 4, none⟩ = false := hfr8 0; have hf8_1 : w15.frozen? ⟨go6, (x5_1 : Int).toNat * 4 + 1, none⟩ = false := hfr8 1; have hf8_2 : w15.frozen? ⟨go6, (x5_1 : Int).toNat * 4 + 2, none⟩ = false := hfr8 2; have hf8_3 : w15.frozen? ⟨go6, (x5_1 : Int).toNat * 4 + 3, none⟩ = false := hfr8 3; clear hcl8 hcc8 hfr8 hM8; replace p8 := eq_true p8; replace q8 := eq_true q8; have HX16 := Aside0.mk (show Kd.R k147 147 w15 w0.heap.size (fun k_ => (P0_ k_ ∨ w.heap.size ≤ k_)) (.slice (some ⟨go6, 0, none⟩) x0_1.length co10) y471 from (kr HO_0)); obtain ⟨ce16, hcl16, hM16, hcc16, hfr16⟩ := Kd.R_elem HX16.out z147 (x5_1 : Int) (of_decide_eq_true am) (by have h_ : (x5_1 : Int) < ((x0_1.length : Int) : Int) := of_decide_eq_true am; first | exact h_ | (have e_ := (Kd.R_reads' HO_0.out).1; omega) | simpa using h_); obtain rfl := k147_openM hM16; have HP16 := Kd.R_seg HX16.out (x5_1 : Int) (of_decide_eq_true am) (by have h_ : (x5_1 : Int) < ((x0_1.length : Int) : Int) := of_decide_eq_true am; first | exact h_ | (have e_ := (Kd.R_reads' HO_0.out).1; omega) | simpa using h_) (seg := [.int .i64 (wrap64 ((wrap64 (x1_1 + 1)) + 1))]) (j := 2) hcl16 hcc16 (show 3 ≤ 4 from by decide) (x' := (⟨(rd_T147 y471 x5_1).f0, (rd_T147 y471 x5_1).f1, wrap64 ((wrap64 (x1_1 + 1)) + 1), (rd_T147 y471 x5_1).f3⟩ : S147)) (k147_mkM _ _ _ (⟨(rd_T147 y471 x5_1).f0, (rd_T147 y471 x5_1).f1, wrap64 ((wrap64 (x1_1 + 1)) + 1), (rd_T147 y471 x5_1).f3⟩ : S147) ) (fun _ hk => hk); have hx16_2 := hcc16 2 _ rfl; (try simp only [show (k147).sz = 4 from rfl, Nat.mul_one, Nat.add_zero] at hx16_2); have hf16_2 := hfr16 2; (try simp only [show (k147).sz = 4 from rfl, Nat.mul_one, Nat.add_zero] at hf16_2); clear hcl16 hcc16 hfr16 hM16) | ((with_reducible refine gate_store (t := 3) (p := 31) rfl ?_); refine store_event (t := 3) (p := 31) (v := ?vo_w17) (w1 := (w15.setCell ⟨go6, (x5_1 : Int).toNat * 4 + 2, none⟩ (.int .i64 (wrap64 ((wrap64 (x1_1 + 1)) + 1))))) ?hg ?ho ?hn ?hr ?_; (case ho => rfl); (case hg => rfl); (case hn => rfl); (case hr => first | (go_simp; done) | (go_simp; rfl)); intro w17 hw; have hg : w15.grownBy w17 (some go6) := (by rw [hw]; exact HP16.2); have hp_ : Kd.R k147 147 w17 w0.heap.size (fun k_ => (P0_ k_ ∨ w.heap.size ≤ k_)) (.slice (some ⟨go6, 0, none⟩) x0_1.length co10) y472 := (by rw [hw, Ny472.out]; exact HP16.1); clear HP16; replace HB := ak (by rw [hw]; exact below_set (HB.out) GB6.out : Below w0.heap.size w0 w17); replace HK := ak (Kept.of_grown (S := (fun k_ => P0_ k_)) hg (by repeat (first | (with_reducible first | exact HK.out | apply Kept.alloc | apply Kept.drewN | apply Kept.drew) | exact HK.out)) (fun k_ e_ => (HO_0.out.1 k_ e_))); replace HO_0 := ak hp_; clear hg hw hp_; have p9 : 0 ≤ (x5_1 : Int) := of_decide_eq_true am; have q9 : (x5_1 : Int) < ((x0_1.length : Int) : Int) := of_decide_eq_true am; obtain ⟨ce9, hcl9, hM9, hcc9, hfr9⟩ := Kd.R_elem HO_0.out z147 (x5_1 : Int) p9 q9; obtain rfl := k147_openM hM9; have hx9_0 : w17.cell? ⟨go6, (x5_1 : Int).toNat * 4, none⟩ = some (.string ((rd_T147 y472 x5_1).f0)) := hcc9 0 _ rfl; have hx9_1 : w17.cell? ⟨go6, (x5_1 : Int).toNat * 4 + 1, none⟩ = some (.int .i64 ((rd_T147 y472 x5_1).f1)) := hcc9 1 _ rfl; have hx9_2 : w17.cell? ⟨go6, (x5_1 : Int).toNat * 4 + 2, none⟩ = some (.int .i64 ((rd_T147 y472 x5_1).f2)) := hcc9 2 _ rfl; have hx9_3 : w17.cell? ⟨go6, (x5_1 : Int).toNat * 4 + 3, none⟩ = some (.bool ((rd_T147 y472 x5_1).f3)) := hcc9 3 _ rfl; have hf9_0 : w17.frozen? ⟨go6, (x5_1 : Int).toNat * 4, none⟩ = false := hfr9 0; have hf9_1 : w17.frozen? ⟨go6, (x5_1 : Int).toNat * 4 + 1, none⟩ = false := hfr9 1; have hf9_2 : w17.frozen? ⟨go6, (x5_1 : Int).toNat * 4 + 2, none⟩ = false := hfr9 2; have hf9_3 : w17.frozen? ⟨go6, (x5_1 : Int).toNat * 4 + 3, none⟩ = false := hfr9 3; clear hcl9 hcc9 hfr9 hM9; replace p9 := eq_true p9; replace q9 := eq_true q9; have HX18 := Aside0.mk (show Kd.R k147 147 w17 w0.heap.size (fun k_ => (P0_ k_ ∨ w.heap.size ≤ k_)) (.slice (some ⟨go6, 0, none⟩) x0_1.length co10) y472 from (kr HO_0)); obtain ⟨ce18, hcl18, hM18, hcc18, hfr18⟩ := Kd.R_elem HX18.out z147 (x5_1 : Int) (of_decide_eq_true am) (by have h_ : (x5_1 : Int) < ((x0_1.length : Int) : Int) := of_decide_eq_true am; first | exact h_ | (have e_ := (Kd.R_reads' HO_0.out).1; omega) | simpa using h_); obtain rfl := k147_openM hM18; have HP18 := Kd.R_seg HX18.out (x5_1 : Int) (of_decide_eq_true am) (by have h_ : (x5_1 : Int) < ((x0_1.length : Int) : Int) := of_decide_eq_true am; first | exact h_ | (have e_ := (Kd.R_reads' HO_0.out).1; omega) | simpa using h_) (seg := [.bool ((Int.tmod (wrap64 ((wrap64 ((wrap64 (x1_1 + 1)) + 1)) + 1)) 3) == 0)]) (j := 3) hcl18 hcc18 (show 4 ≤ 4 from by decide) (x' := (⟨(rd_T147 y472 x5_1).f0, (rd_T147 y472 x5_1).f1, (rd_T147 y472 x5_1).f2, ((Int.tmod (wrap64 ((wrap64 ((wrap64 (x1_1 + 1)) + 1)) + 1)) 3) == 0)⟩ : S147)) (k147_mkM _ _ _ (⟨(rd_T147 y472 x5_1).f0, (rd_T147 y472 x5_1).f1, (rd_T147 y472 x5_1).f2, ((Int.tmod (wrap64 ((wrap64 ((wrap64 (x1_1 + 1)) + 1)) + 1)) 3) == 0)⟩ : S147) ) (fun _ hk => hk); have hx18_3 := hcc18 3 _ rfl; (try simp only [show (k147).sz = 4 from rfl, Nat.mul_one, Nat.add_zero] at hx18_3); have hf18_3 := hfr18 3; (try simp only [show (k147).sz = 4 from rfl, Nat.mul_one, Nat.add_zero] at hf18_3); clear hcl18 hcc18 hfr18 hM18) | ((with_reducible refine gate_store (t := 4) (p := 40) rfl ?_); refine store_event (t := 4) (p := 40) (v := ?vo_w19) (w1 := (w17.setCell ⟨go6, (x5_1 : Int).toNat * 4 + 3, none⟩ (.bool ((Int.tmod (wrap64 ((wrap64 ((wrap64 (x1_1 + 1)) + 1)) + 1)) 3) == 0)))) ?hg ?ho ?hn ?hr ?_; (case ho => rfl); (case hg => rfl); (case hn => rfl); (case hr => first | (go_simp; done) | (go_simp; rfl)); intro w19 hw; have hg : w17.grownBy w19 (some go6) := (by rw [hw]; exact HP18.2); have hp_ : Kd.R k147 147 w19 w0.heap.size (fun k_ => (P0_ k_ ∨ w.heap.size ≤ k_)) (.slice (some ⟨go6, 0, none⟩) x0_1.length co10) y473 := (by rw [hw, Ny473.out]; exact HP18.1); clear HP18; replace HB := ak (by rw [hw]; exact below_set (HB.out) GB6.out : Below w0.heap.size w0 w19); replace HK := ak (Kept.of_grown (S := (fun k_ => P0_ k_)) hg (by repeat (first | (with_reducible first | exact HK.out | apply Kept.alloc | apply Kept.drewN | apply Kept.drew) | exact HK.out)) (fun k_ e_ => (HO_0.out.1 k_ e_))); replace HO_0 := ak hp_; clear hg hw hp_))
       go_roundg k1
       case measure => have := HK1.out; omega
       case rel => exact ⟨(y473), (wrap64 ((wrap64 ((wrap64 ((wrap64 (x1_1 + 1)) + 1)) + 1)) + 1)), (wrap64 (x5_1 + 1)), es, es, H', ⟨kp⟩, ⟨kr HO_0⟩, ⟨by repeat (first | (with_reducible first | exact HK.out | apply Kept.alloc | apply Kept.drewN | apply Kept.drew) | exact HK.out)⟩, ⟨bl⟩⟩
     · rw [if_neg c5] at H
       exact absurd H (by simp)
   · rw [if_neg c3] at H
     have c3b0 : decide (x5_1 < (x0_1.length : Int)) = false := decide_eq_false c3
     clear c3
     simp only [Option.some.injEq, Prod.mk.injEq] at H
     obtain ⟨rfl, rfl⟩ := H
     obtain ⟨Ao20, co20, eo20⟩ := Kd.R_slice HO_0.out
     subst eo20
     go_wp2
     go_ret
     exact ⟨ew, kr HO_0, bl, by repeat (first | (with_reducible first | exact HK.out | apply Kept.alloc | apply Kept.drewN | apply Kept.drew) | exact HK.out)⟩

end Go.Proofs.Ytplekidnlofioaa.Q
namespace Go.Proofs.Ytplekidnlofioaa.Q
open Go.RowKit Go.Proofs.YtplekidnlofioaaW.PrintWords Go.Proofs.YtplekidnlofioaaW.PrintLast Go.Proofs.YtplekidnlofioaaW.PrintMore
attribute [local go_sem] max2_int min2_int max_two min_two max_three min_three max_four min_four   -- for this text's walks alone
set_option linter.unusedVariables false
set_option linter.unusedSimpArgs false

/-! ### laws_markIntS: function 40 -/
def laws_markIntS.l0 : Nat → List Int → Int → Int → Option (Int × List Int)
 | 0, _, _, _ => none
 | k + 1, x0, x1, x5 => if x5 < (x0.length : Int) then (if 0 ≤ x5 then (laws_markIntS.l0 k (x0.set (x5 : Int).toNat x1) (wrap64 (x1 + 1)) (wrap64 (x5 + 1))) else (none)) else (some (x1, x0))
def laws_markIntS.f (k : Nat) (l0 : List Int) (a1 : Int) : Option (Int × List Int) := laws_markIntS.l0 k l0 a1 0
theorem laws_markIntS.mono_l : ∀ k, (∀ y0 y1 y2, LeO (laws_markIntS.l0 k y0 y1 y2) (laws_markIntS.l0 (k + 1) y0 y1 y2))
 | 0 => fun _ _ _ r h => by simp [laws_markIntS.l0] at h
 | k + 1 => by
  have ih0 := laws_markIntS.mono_l k
  · intro y0 y1 y2
    unfold laws_markIntS.l0
    repeat' first
    | (with_reducible exact ih0 _ _ _)
    | (with_reducible exact LeO.refl _)
    | (with_reducible exact LeO.none _)
    | (with_reducible refine LeO.ite ?_ ?_)
    | (with_reducible refine LeO.bind ?_ (fun _ => ?_))
    | exact ih0 _ _ _
    | exact LeO.none _
    | refine LeO.ite ?_ ?_
    | refine LeO.bind ?_ (fun _ => ?_)
theorem laws_markIntS.mono : ∀ a0 a1 k, LeO (laws_markIntS.f k a0 a1) (laws_markIntS.f (k + 1) a0 a1) := by
 intro a0 a1 k
 have ih0 := laws_markIntS.mono_l k
 unfold laws_markIntS.f
 repeat' first
  | (with_reducible exact ih0 _ _ _)
  | (with_reducible exact LeO.refl _)
  | (with_reducible exact LeO.none _)
  | (with_reducible refine LeO.ite ?_ ?_)
  | (with_reducible refine LeO.bind ?_ (fun _ => ?_))
  | exact ih0 _ _ _
  | exact LeO.none _
  | refine LeO.ite ?_ ?_
  | refine LeO.bind ?_ (fun _ => ?_)
set_option maxHeartbeats 8000000 in
set_option maxRecDepth 100000 in
theorem laws_markIntS.calls (k : Nat) (P0_ : Nat → Prop) (u9000_ : Value) (l0 : List Int) (a1 : Int) (r1 : Int) (r2 : List Int) (w0 w : World) (hB : Below w0.heap.size w0 w) (ho0 : Kd.R (Kd.int .i64) 3 w w0.heap.size P0_ u9000_ l0) (h : laws_markIntS.f k l0 a1 = some (r1, r2)) :
 Calls Try.prog 40 #[u9000_, .int .i64 a1] w fun e w' => e = .returned (.int .i64 r1) ∧ Kd.R (Kd.int .i64) 3 w' w0.heap.size (fun k_ => (P0_ k_ ∨ w.heap.size ≤ k_)) u9000_ r2 ∧ Below w0.heap.size w0 w' ∧ Kept w w' (fun k_ => P0_ k_) := by
 have HO0 := Aside0.mk (show Kd.R (Kd.int .i64) 3 w w0.heap.size (fun k_ => (P0_ k_ ∨ w.heap.size ≤ k_)) u9000_ l0 from Kd.R_mono ho0 (fun k_ hk => (.inl hk)))
 have HK := Aside0.mk (Kept.refl w (fun k_ => P0_ k_))
 have HW0 := Aside0.mk hB.size
 have HB := Aside0.mk hB
 clear hB
 have H : (laws_markIntS.l0 k l0 a1 0) = some (r1, r2) := h
 clear h
 have H' := Aside0.mk H
 clear H
 go_enter Try.func40, Try.ntmps40
 go_wp2
 go_loopg [1, 5] k (fun kq v1 v5 w' => ∃ (x0_1 : List Int) (x1_1 : Int) (x5_1 : Int), v1 = .int .i64 x1_1 ∧ v5 = .int .i64 x5_1 ∧ Aside0 (laws_markIntS.l0 kq x0_1 x1_1 x5_1 = some (r1, r2)) ∧ Aside0 (kq ≤ k) ∧ Aside0 (Kd.R (Kd.int .i64) 3 w' w0.heap.size (fun k_ => (P0_ k_ ∨ w.heap.size ≤ k_)) u9000_ x0_1) ∧ Aside0 (Kept w w' (fun k_ => P0_ k_)) ∧ Aside0 (Below w0.heap.size w0 w'))
 case atStart => exact ⟨(l0), (a1), (0), es, es, H', ⟨Nat.le_refl _⟩, ⟨kr HO0⟩, ⟨by repeat (first | (with_reducible first | exact HK.out | apply Kept.alloc | apply Kept.drewN | apply Kept.drew) | exact HK.out)⟩, ⟨bl⟩⟩
 case round =>
  clear H'
  try clear p2
  obtain ⟨x0_1, x1_1, x5_1, rfl, rfl, HA, HK1, HO_0, HK, HB⟩ := hrel
  cases gk with
  | zero => exact absurd HA.out (by simp [laws_markIntS.l0])
  | succ k1 =>
   have H := HA.out
   clear HA
   simp only [laws_markIntS.l0] at H
   by_cases c3 : x5_1 < (x0_1.length : Int)
   · rw [if_pos c3] at H
     have c3b0 : decide (x5_1 < (x0_1.length : Int)) = true := decide_eq_true c3
     clear c3
     by_cases c4 : 0 ≤ x5_1
     · rw [if_pos c4] at H
       have c4b0 : decide (0 ≤ x5_1) = true := decide_eq_true c4
       clear c4
       obtain ⟨y474, hy474⟩ : ∃ y_ : List Int, y_ = (x0_1.set (x5_1 : Int).toNat x1_1) := ⟨_, rfl⟩
       replace H : (laws_markIntS.l0 k1 y474 (wrap64 (x1_1 + 1)) (wrap64 (x5_1 + 1))) = some (r1, r2) := by first | (rw [hy474]; with_reducible exact H) | (have H2_ := (Option.bind_some _ _).symm.trans H; rw [hy474]; with_reducible exact H2_) | (have H2_ := (Option.bind_some _ _).symm.trans H; with_reducible exact H2_) | with_reducible exact H | (rw [hy474]; exact H) | exact H
       have Ny474 := Aside0.mk hy474
       clear hy474
       have H' := Aside0.mk H
       clear H
       obtain ⟨Ao6, co6, eo6⟩ := Kd.R_slice HO_0.out
       subst eo6
       have p5 : 0 ≤ (x5_1 : Int) := of_decide_eq_true am
       have q5 : (x5_1 : Int) < ((x0_1.length : Int) : Int) := of_decide_eq_true am
       obtain ⟨go5, co5, eo5, gb5, gl5, cl5, HG5⟩ := Kd.R_form HO_0.out (by omega)
       (first | cases eo5 | (injection eo5 with ea_ en_ ec_; (first | subst ea_ | (injection ea_ with ea_; subst ea_)); subst ec_; clear en_))
       have GB5 := Aside0.mk gb5
       have GG5 := Aside0.mk HG5
       clear gb5 gl5 HG5
       have HMgo5 := Aside0.mk (show (P0_ go5 ∨ w.heap.size ≤ go5) from (HO_0.out.1 _ rfl))
       obtain ⟨hx5_0, hf5_0⟩ := Kd.R_celln 0 HO_0.out (x5_1 : Int) p5 q5
       replace p5 := eq_true p5
       replace q5 := eq_true q5
       have HP7 := Kd.R_putg HO_0.out (x5_1 : Int) x1_1
       go_wp2_with (first | ((with_reducible refine gate_store (t := 3) (p := 15) rfl ?_); refine store_event (t := 3) (p := 15) (v := ?vo_w8) (w1 := (wr.setCell ⟨go5, (x5_1 : Int).toNat, none⟩ (.int .i64 x1_1))) ?hg ?ho ?hn ?hr ?_; (case ho => rfl); (case hg => rfl); (case hn => rfl); (case hr => first | (go_simp; done) | (go_simp; rfl)); intro w8 hw; have hg : wr.grownBy w8 (some go5) := (by rw [hw]; exact HP7.2); have hp_ : Kd.R (Kd.int .i64) 3 w8 w0.heap.size (fun k_ => (P0_ k_ ∨ w.heap.size ≤ k_)) (.slice (some ⟨go5, 0, none⟩) x0_1.length co6) y474 := (by rw [hw, Ny474.out]; exact HP7.1); clear HP7; replace HB := ak (by rw [hw]; exact below_set (HB.out) GB5.out : Below w0.heap.size w0 w8); replace HK := ak (Kept.of_grown (S := (fun k_ => P0_ k_)) hg (by repeat (first | (with_reducible first | exact HK.out | apply Kept.alloc | apply Kept.drewN | apply Kept.drew) | exact HK.out)) (fun k_ e_ => (HO_0.out.1 k_ e_))); replace HO_0 := ak hp_; clear hg hw hp_))
       go_roundg k1
       case measure => have := HK1.out; omega
       case rel => exact ⟨(y474), (wrap64 (x1_1 + 1)), (wrap64 (x5_1 + 1)), es, es, H', ⟨kp⟩, ⟨kr HO_0⟩, ⟨by repeat (first | (with_reducible first | exact HK.out | apply Kept.alloc | apply Kept.drewN | apply Kept.drew) | exact HK.out)⟩, ⟨bl⟩⟩
     · rw [if_neg c4] at H
       exact absurd H (by simp)
   · rw [if_neg c3] at H
     have c3b0 : decide (x5_1 < (x0_1.length : Int)) = false := decide_eq_false c3
     clear c3
     simp only [Option.some.injEq, Prod.mk.injEq] at H
     obtain ⟨rfl, rfl⟩ := H
     obtain ⟨Ao9, co9, eo9⟩ := Kd.R_slice HO_0.out
     subst eo9
     go_wp2
     go_ret
     exact ⟨ew, kr HO_0, bl, by repeat (first | (with_reducible first | exact HK.out | apply Kept.alloc | apply Kept.drewN | apply Kept.drew) | exact HK.out)⟩

end Go.Proofs.Ytplekidnlofioaa.Q
namespace Go.Proofs.Ytplekidnlofioaa.Q
open Go.RowKit Go.Proofs.YtplekidnlofioaaW.PrintWords Go.Proofs.YtplekidnlofioaaW.PrintLast Go.Proofs.YtplekidnlofioaaW.PrintMore
attribute [local go_sem] max2_int min2_int max_two min_two max_three min_three max_four min_four   -- for this text's walks alone
set_option linter.unusedVariables false
set_option linter.unusedSimpArgs false

/-! ### laws_heldIntS: function 41 -/
def laws_heldIntS.l0 : Nat → List Int → Int → Int → Option (Int)
 | 0, _, _, _ => none
 | k + 1, x0, x1, x5 => if x5 < (x0.length : Int) then (if 0 ≤ x5 then (if (rd x0 x5) = x1 then (laws_heldIntS.l0 k x0 (wrap64 (x1 + 1)) (wrap64 (x5 + 1))) else (some (-1))) else (none)) else (some x1)
def laws_heldIntS.f (k : Nat) (l0 : List Int) (a1 : Int) : Option (Int) := laws_heldIntS.l0 k l0 a1 0
theorem laws_heldIntS.mono_l : ∀ k, (∀ y0 y1 y2, LeO (laws_heldIntS.l0 k y0 y1 y2) (laws_heldIntS.l0 (k + 1) y0 y1 y2))
 | 0 => fun _ _ _ r h => by simp [laws_heldIntS.l0] at h
 | k + 1 => by
  have ih0 := laws_heldIntS.mono_l k
  · intro y0 y1 y2
    unfold laws_heldIntS.l0
    repeat' first
    | (with_reducible exact ih0 _ _ _)
    | (with_reducible exact LeO.refl _)
    | (with_reducible exact LeO.none _)
    | (with_reducible refine LeO.ite ?_ ?_)
    | (with_reducible refine LeO.bind ?_ (fun _ => ?_))
    | exact ih0 _ _ _
    | exact LeO.none _
    | refine LeO.ite ?_ ?_
    | refine LeO.bind ?_ (fun _ => ?_)
theorem laws_heldIntS.mono : ∀ a0 a1 k, LeO (laws_heldIntS.f k a0 a1) (laws_heldIntS.f (k + 1) a0 a1) := by
 intro a0 a1 k
 have ih0 := laws_heldIntS.mono_l k
 unfold laws_heldIntS.f
 repeat' first
  | (with_reducible exact ih0 _ _ _)
  | (with_reducible exact LeO.refl _)
  | (with_reducible exact LeO.none _)
  | (with_reducible refine LeO.ite ?_ ?_)
  | (with_reducible refine LeO.bind ?_ (fun _ => ?_))
  | exact ih0 _ _ _
  | exact LeO.none _
  | refine LeO.ite ?_ ?_
  | refine LeO.bind ?_ (fun _ => ?_)
set_option maxHeartbeats 8000000 in
set_option maxRecDepth 100000 in
theorem laws_heldIntS.calls (k : Nat) (A0 : Option Addr) (c0 : Nat) (l0 : List Int) (a1 : Int) (r : Int) (w : World) (hr0 : Kd.C (Kd.int .i64) w A0 l0.length l0) (hc0 : l0.length ≤ c0) (h : laws_heldIntS.f k l0 a1 = some r) :
 Calls Try.prog 41 #[.slice A0 l0.length c0, .int .i64 a1] w fun e w' => e = .returned (.int .i64 r) ∧ Drawn0 w w' := by
 have HR0 := Aside0.mk hr0
 have HC0 := Aside0.mk hc0
 clear hr0 hc0
 have H : (laws_heldIntS.l0 k l0 a1 0) = some r := h
 clear h
 have H' := Aside0.mk H
 clear H
 go_enter Try.func41, Try.ntmps41
 go_wp2
 go_loopg [1, 5] k (fun kq v1 v5 w' => ∃ (x1_1 : Int) (x5_1 : Int), v1 = .int .i64 x1_1 ∧ v5 = .int .i64 x5_1 ∧ Aside0 (laws_heldIntS.l0 kq l0 x1_1 x5_1 = some r) ∧ Aside0 (kq ≤ k) ∧ Drawn0 w w')
 case atStart => exact ⟨(a1), (0), es, es, H', ⟨Nat.le_refl _⟩, dr0⟩
 case round =>
  clear H'
  try clear p2
  obtain ⟨x1_1, x5_1, rfl, rfl, HA, HK1, ⟨m1, rfl⟩⟩ := hrel
  cases gk with
  | zero => exact absurd HA.out (by simp [laws_heldIntS.l0])
  | succ k1 =>
   have H := HA.out
   clear HA
   simp only [laws_heldIntS.l0] at H
   by_cases c3 : x5_1 < (l0.length : Int)
   · rw [if_pos c3] at H
     have c3b0 : decide (x5_1 < (l0.length : Int)) = true := decide_eq_true c3
     clear c3
     by_cases c4 : 0 ≤ x5_1
     · rw [if_pos c4] at H
       have c4b0 : decide (0 ≤ x5_1) = true := decide_eq_true c4
       clear c4
       by_cases c5 : (rd l0 x5_1) = x1_1
       · rw [if_pos c5] at H
         have c5b0 : ((rd l0 x5_1) == x1_1) = true := beq_iff_eq.mpr c5
         have c5b1 : ((rd l0 x5_1) != x1_1) = false := bne_eq_false_iff_eq.mpr c5
         clear c5
         have H' := Aside0.mk H
         clear H
         have p475 : 0 ≤ (x5_1 : Int) := of_decide_eq_true am
         have q475 : x5_1 < (l0.length : Int) := of_decide_eq_true am
         obtain ⟨ad475, e475, hx475_0⟩ := Kd.at_int HR0.out x5_1 p475 q475
         cases e475
         replace p475 := eq_true p475
         replace q475 := eq_true q475
         go_wp2
         go_roundg k1
         case measure => have := HK1.out; omega
         case rel => exact ⟨(wrap64 (x1_1 + 1)), (wrap64 (x5_1 + 1)), es, es, H', ⟨kp⟩, dr0⟩
       · rw [if_neg c5] at H
         have c5b0 : ((rd l0 x5_1) == x1_1) = false := beq_eq_false_iff_ne.mpr c5
         have c5b1 : ((rd l0 x5_1) != x1_1) = true := bne_iff_ne.mpr c5
         obtain rfl := Option.some.inj H
         have p475 : 0 ≤ (x5_1 : Int) := of_decide_eq_true am
         have q475 : x5_1 < (l0.length : Int) := of_decide_eq_true am
         obtain ⟨ad475, e475, hx475_0⟩ := Kd.at_int HR0.out x5_1 p475 q475
         cases e475
         replace p475 := eq_true p475
         replace q475 := eq_true q475
         go_wp2
         go_ret
         exact ⟨es, dr0⟩
     · rw [if_neg c4] at H
       exact absurd H (by simp)
   · rw [if_neg c3] at H
     have c3b0 : decide (x5_1 < (l0.length : Int)) = false := decide_eq_false c3
     clear c3
     obtain rfl := Option.some.inj H
     go_wp2
     go_ret
     exact ⟨es, dr0⟩

end Go.Proofs.Ytplekidnlofioaa.Q
namespace Go.Proofs.Ytplekidnlofioaa.Q
open Go.RowKit Go.Proofs.YtplekidnlofioaaW.PrintWords Go.Proofs.YtplekidnlofioaaW.PrintLast Go.Proofs.YtplekidnlofioaaW.PrintMore
attribute [local go_sem] max2_int min2_int max_two min_two max_three min_three max_four min_four   -- for this text's walks alone
set_option linter.unusedVariables false
set_option linter.unusedSimpArgs false

/-! ### laws_eqIntS: function 37 -/
def laws_eqIntS.l0 : Nat → List Int → List Int → Int → Option (Bool)
 | 0, _, _, _ => none
 | k + 1, x0, x1, x5 => if x5 < (x0.length : Int) then (if 0 ≤ x5 then (if x5 < (x1.length : Int) then (if (rd x0 x5) = (rd x1 x5) then (laws_eqIntS.l0 k x0 x1 (wrap64 (x5 + 1))) else (some false)) else (none)) else (none)) else (some true)
def laws_eqIntS.f (k : Nat) (l0 : List Int) (l1 : List Int) : Option (Bool) := if (l0.length : Int) = (l1.length : Int) then (laws_eqIntS.l0 k l0 l1 0) else (some false)
theorem laws_eqIntS.mono_l : ∀ k, (∀ y0 y1 y2, LeO (laws_eqIntS.l0 k y0 y1 y2) (laws_eqIntS.l0 (k + 1) y0 y1 y2))
 | 0 => fun _ _ _ r h => by simp [laws_eqIntS.l0] at h
 | k + 1 => by
  have ih0 := laws_eqIntS.mono_l k
  · intro y0 y1 y2
    unfold laws_eqIntS.l0
    repeat' first
    | (with_reducible exact ih0 _ _ _)
    | (with_reducible exact LeO.refl _)
    | (with_reducible exact LeO.none _)
    | (with_reducible refine LeO.ite ?_ ?_)
    | (with_reducible refine LeO.bind ?_ (fun _ => ?_))
    | exact ih0 _ _ _
    | exact LeO.none _
    | refine LeO.ite ?_ ?_
    | refine LeO.bind ?_ (fun _ => ?_)
theorem laws_eqIntS.mono : ∀ a0 a1 k, LeO (laws_eqIntS.f k a0 a1) (laws_eqIntS.f (k + 1) a0 a1) := by
 intro a0 a1 k
 have ih0 := laws_eqIntS.mono_l k
 unfold laws_eqIntS.f
 repeat' first
  | (with_reducible exact ih0 _ _ _)
  | (with_reducible exact LeO.refl _)
  | (with_reducible exact LeO.none _)
  | (with_reducible refine LeO.ite ?_ ?_)
  | (with_reducible refine LeO.bind ?_ (fun _ => ?_))
  | exact ih0 _ _ _
  | exact LeO.none _
  | refine LeO.ite ?_ ?_
  | refine LeO.bind ?_ (fun _ => ?_)
set_option maxHeartbeats 8000000 in
set_option maxRecDepth 100000 in
theorem laws_eqIntS.calls (k : Nat) (A0 : Option Addr) (c0 : Nat) (l0 : List Int) (A1 : Option Addr) (c1 : Nat) (l1 : List Int) (r : Bool) (w : World) (hr0 : Kd.C (Kd.int .i64) w A0 l0.length l0) (hc0 : l0.length ≤ c0) (hr1 : Kd.C (Kd.int .i64) w A1 l1.length l1) (hc1 : l1.length ≤ c1) (h : laws_eqIntS.f k l0 l1 = some r) :
 Calls Try.prog 37 #[.slice A0 l0.length c0, .slice A1 l1.length c1] w fun e w' => e = .returned (.bool r) ∧ Drawn0 w w' := by
 have HR0 := Aside0.mk hr0
 have HC0 := Aside0.mk hc0
 clear hr0 hc0
 have HR1 := Aside0.mk hr1
 have HC1 := Aside0.mk hc1
 clear hr1 hc1
 have H : (if (l0.length : Int) = (l1.length : Int) then (laws_eqIntS.l0 k l0 l1 0) else (some false)) = some r := h
 clear h
 by_cases c3 : (l0.length : Int) = (l1.length : Int)
 · rw [if_pos c3] at H
   have c3b0 : ((l0.length : Int) == (l1.length : Int)) = true := beq_iff_eq.mpr c3
   have c3b1 : ((l0.length : Int) != (l1.length : Int)) = false := bne_eq_false_iff_eq.mpr c3
   have c3b2 : (l0.length == l1.length) = true := by first | simpa using c3 | (simp at c3 ⊢; omega)
   clear c3
   have H' := Aside0.mk H
   clear H
   go_enter Try.func37, Try.ntmps37
   go_wp2
   repeat (go_quiet (fail); try go_wp2)
   go_loopg [5] k (fun kq v5 w' => ∃ (x5_1 : Int), v5 = .int .i64 x5_1 ∧ Aside0 (laws_eqIntS.l0 kq l0 l1 x5_1 = some r) ∧ Aside0 (kq ≤ k) ∧ Drawn0 w w')
   case atStart => exact ⟨(0), es, H', ⟨Nat.le_refl _⟩, dr0⟩
   case round =>
    clear H'
    try clear c1
    try clear p2
    try clear c3
    try clear c3b0
    try clear c3b1
    try clear c3b2
    obtain ⟨x5_1, rfl, HA, HK1, ⟨m1, rfl⟩⟩ := hrel
    cases gk with
    | zero => exact absurd HA.out (by simp [laws_eqIntS.l0])
    | succ k1 =>
     have H := HA.out
     clear HA
     simp only [laws_eqIntS.l0] at H
     by_cases c4 : x5_1 < (l0.length : Int)
     · rw [if_pos c4] at H
       have c4b0 : decide (x5_1 < (l0.length : Int)) = true := decide_eq_true c4
       clear c4
       by_cases c5 : 0 ≤ x5_1
       · rw [if_pos c5] at H
         have c5b0 : decide (0 ≤ x5_1) = true := decide_eq_true c5
         clear c5
         by_cases c6 : x5_1 < (l1.length : Int)
         · rw [if_pos c6] at H
           have c6b0 : decide (x5_1 < (l1.length : Int)) = true := decide_eq_true c6
           clear c6
           by_cases c7 : (rd l0 x5_1) = (rd l1 x5_1)
           · rw [if_pos c7] at H
             have c7b0 : ((rd l0 x5_1) == (rd l1 x5_1)) = true := beq_iff_eq.mpr c7
             have c7b1 : ((rd l0 x5_1) != (rd l1 x5_1)) = false := bne_eq_false_iff_eq.mpr c7
             clear c7
             have H' := Aside0.mk H
             clear H
             have p462 : 0 ≤ (x5_1 : Int) := of_decide_eq_true am
             have q462 : x5_1 < (l0.length : Int) := of_decide_eq_true am
             obtain ⟨ad462, e462, hx462_0⟩ := Kd.at_int HR0.out x5_1 p462 q462
             cases e462
             replace p462 := eq_true p462
             replace q462 := eq_true q462
             have p463 : 0 ≤ (x5_1 : Int) := of_decide_eq_true am
             have q463 : x5_1 < (l1.length : Int) := of_decide_eq_true am
             obtain ⟨ad463, e463, hx463_0⟩ := Kd.at_int HR1.out x5_1 p463 q463
             cases e463
             replace p463 := eq_true p463
             replace q463 := eq_true q463
             go_wp2
             repeat (go_quiet (fail); try go_wp2)
             go_roundg k1
             case measure => have := HK1.out; omega
             case rel => exact ⟨(wrap64 (x5_1 + 1)), es, H', ⟨kp⟩, dr0⟩
           · rw [if_neg c7] at H
             have c7b0 : ((rd l0 x5_1) == (rd l1 x5_1)) = false := beq_eq_false_iff_ne.mpr c7
             have c7b1 : ((rd l0 x5_1) != (rd l1 x5_1)) = true := bne_iff_ne.mpr c7
             obtain rfl := Option.some.inj H
             have p462 : 0 ≤ (x5_1 : Int) := of_decide_eq_true am
             have q462 : x5_1 < (l0.length : Int) := of_decide_eq_true am
             obtain ⟨ad462, e462, hx462_0⟩ := Kd.at_int HR0.out x5_1 p462 q462
             cases e462
             replace p462 := eq_true p462
             replace q462 := eq_true q462
             have p463 : 0 ≤ (x5_1 : Int) := of_decide_eq_true am
             have q463 : x5_1 < (l1.length : Int) := of_decide_eq_true am
             obtain ⟨ad463, e463, hx463_0⟩ := Kd.at_int HR1.out x5_1 p463 q463
             cases e463
             replace p463 := eq_true p463
             replace q463 := eq_true q463
             go_wp2
             repeat (go_quiet (fail); try go_wp2)
             go_ret
             exact ⟨es, dr0⟩
         · rw [if_neg c6] at H
           exact absurd H (by simp)
       · rw [if_neg c5] at H
         exact absurd H (by simp)
     · rw [if_neg c4] at H
       have c4b0 : decide (x5_1 < (l0.length : Int)) = false := decide_eq_false c4
       clear c4
       obtain rfl := Option.some.inj H
       go_wp2
       repeat (go_quiet (fail); try go_wp2)
       go_ret
       exact ⟨es, dr0⟩
 · rw [if_neg c3] at H
   have c3b0 : ((l0.length : Int) == (l1.length : Int)) = false := beq_eq_false_iff_ne.mpr c3
   have c3b1 : ((l0.length : Int) != (l1.length : Int)) = true := bne_iff_ne.mpr c3
   have c3b2 : (l0.length == l1.length) = false := by first | simpa using c3 | (simp at c3 ⊢; omega)
   obtain rfl := Option.some.inj H
   go_enter Try.func37, Try.ntmps37
   go_wp2
   repeat (go_quiet (fail); try go_wp2)
   go_ret
   exact ⟨es, dr0⟩

end Go.Proofs.Ytplekidnlofioaa.Q
namespace Go.Proofs.Ytplekidnlofioaa.Q
open Go.RowKit Go.Proofs.YtplekidnlofioaaW.PrintWords Go.Proofs.YtplekidnlofioaaW.PrintLast
set_option linter.unusedVariables false
set_option linter.unusedSimpArgs false
theorem markPodS_l0_ev : ∀ (suf pre : List S147) (a : Int), 0 ≤ a → a + 4 * suf.length ≤ 4611686018427387000 → pre.length + suf.length ≤ 1048576 → ∃ m : List S147, Ev (fun k => laws_markPodS.l0 k (pre ++ suf) a (pre.length : Int)) (a + 4 * suf.length, m) := by
  intro suf
  induction suf with
  | nil =>
    intro pre a _ _ _
    refine ⟨pre ++ [], Ev.step (fun k => by rw [laws_markPodS.l0]) ?_⟩
    have : a + 4 * ((([] : List S147).length : Nat) : Int) = a := by simp
    simp only [if_neg (not_lt_end pre)]
    rw [this]
    exact Ev.now _
  | cons s suf ih =>
    intro pre a h0 h1 h2
    rw [List.length_cons] at h1 h2
    have hr := fun x => ih (pre ++ [x]) (a + 4) (by omega) (by omega) (by rw [List.length_append, List.length_singleton]; omega)
    have hw := wrapn pre.length (by omega)
    have hw1 : wrap64 (a + 1) = a + 1 := by unfold wrap64; omega
    have hw2 : wrap64 (a + 1 + 1) = a + 2 := by unfold wrap64; omega
    have hw3 : wrap64 (a + 2 + 1) = a + 3 := by unfold wrap64; omega
    have hw4 : wrap64 (a + 3 + 1) = a + 4 := by unfold wrap64; omega
    obtain ⟨m, hm⟩ := hr (⟨markT a, a + 1, a + 2, (Int.tmod (a + 3) 3) == 0⟩ : S147)
    rw [List.length_append, List.length_singleton, List.append_assoc, List.singleton_append] at hm
    refine ⟨m, Ev.step (fun k => by rw [laws_markPodS.l0]) ?_⟩
    simp only [if_pos (lt_mid _ _ _), hw, hw1, hw2, hw3, hw4, Int.toNat_natCast, set_mid, rdPd_mid, Option.bind_some]
    refine Ev.bind (markT_ev a (by omega)) ?_
    simp only [if_pos (nn _), set_mid, rdPd_mid]
    rw [show a + 4 * ((s :: suf).length : Int) = a + 4 + 4 * (suf.length : Int) from by rw [List.length_cons]; omega]
    exact hm
theorem markPodS_ev (l : List S147) (a : Int) (h0 : 0 ≤ a) (h1 : a + 4 * l.length ≤ 4611686018427387000) (h2 : l.length ≤ 1048576) : ∃ m : List S147, Ev (fun k => laws_markPodS.f k l a) (a + 4 * l.length, m) := markPodS_l0_ev l [] a h0 h1 (by simpa using h2)
def markI : Int → List Int → List Int
  | _, [] => []
  | a, _ :: r => a :: markI (a + 1) r
theorem markI_len : ∀ (r : List Int) (a : Int), (markI a r).length = r.length
  | [], _ => rfl
  | _ :: r, a => by simp only [markI, List.length_cons, markI_len r]
theorem markIntS_l0_ev : ∀ (suf pre : List Int) (a : Int), 0 ≤ a → a + suf.length ≤ 4611686018427387000 → pre.length + suf.length ≤ 4611686018427387000 → Ev (fun k => laws_markIntS.l0 k (pre ++ suf) a (pre.length : Int)) (a + suf.length, pre ++ markI a suf) := by
  intro suf
  induction suf with
  | nil =>
    intro pre a _ _ _
    refine Ev.step (fun k => by rw [laws_markIntS.l0]) ?_
    have : a + ((([] : List Int).length : Nat) : Int) = a := by simp
    simp only [if_neg (not_lt_end pre), markI]
    rw [this]
    exact Ev.now _
  | cons s suf ih =>
    intro pre a h0 h1 h2
    rw [List.length_cons] at h1 h2
    have hr := ih (pre ++ [a]) (a + 1) (by omega) (by omega) (by rw [List.length_append, List.length_singleton]; omega)
    rw [List.length_append, List.length_singleton, List.append_assoc, List.append_assoc, List.singleton_append, List.singleton_append] at hr
    have hw := wrapn pre.length (by omega)
    have hw1 : wrap64 (a + 1) = a + 1 := by unfold wrap64; omega
    refine Ev.step (fun k => by rw [laws_markIntS.l0]) ?_
    simp only [if_pos (lt_mid _ _ _), if_pos (nn _), hw, hw1, Int.toNat_natCast, set_mid, markI]
    rw [show a + ((s :: suf).length : Int) = a + 1 + (suf.length : Int) from by rw [List.length_cons]; omega]
    exact hr
theorem markIntS_ev (l : List Int) (a : Int) (h0 : 0 ≤ a) (h1 : a + l.length ≤ 4611686018427387000) : Ev (fun k => laws_markIntS.f k l a) (a + l.length, markI a l) := markIntS_l0_ev l [] a h0 h1 (by simp; omega)
theorem heldIntS_l0_ev (xs : List Int) : ∀ (suf pre : List Int) (a : Int), xs = pre ++ markI a suf → 0 ≤ a → a + suf.length ≤ 4611686018427387000 → pre.length + suf.length ≤ 4611686018427387000 → Ev (fun k => laws_heldIntS.l0 k xs a (pre.length : Int)) (a + suf.length) := by
  intro suf
  induction suf with
  | nil =>
    intro pre a h _ _ _
    subst h
    refine Ev.step (fun k => by rw [laws_heldIntS.l0]) ?_
    have hlt : ¬ ((pre.length : Int) < ((pre ++ markI a []).length : Int)) := by simp [markI]
    have : a + ((([] : List Int).length : Nat) : Int) = a := by simp
    simp only [if_neg hlt]
    rw [this]
    exact Ev.now _
  | cons s suf ih =>
    intro pre a h h0 h1 h2
    rw [List.length_cons] at h1 h2
    have hr := ih (pre ++ [a]) (a + 1) (by rw [h]; simp [markI]) (by omega) (by omega) (by rw [List.length_append, List.length_singleton]; omega)
    rw [List.length_append, List.length_singleton] at hr
    have hw := wrapn pre.length (by omega)
    have hw1 : wrap64 (a + 1) = a + 1 := by unfold wrap64; omega
    have hlt : (pre.length : Int) < (xs.length : Int) := by rw [h]; exact lt_mid _ _ _
    have hrd : rd xs (pre.length : Int) = a := by rw [h]; exact rd_mid _ _ _
    refine Ev.step (fun k => by rw [laws_heldIntS.l0]) ?_
    simp only [if_pos hlt, if_pos (nn _), hrd, hw, hw1, if_true]
    rw [show a + ((s :: suf).length : Int) = a + 1 + (suf.length : Int) from by rw [List.length_cons]; omega]
    exact hr
theorem heldIntS_ev (l : List Int) (a : Int) (h0 : 0 ≤ a) (h1 : a + l.length ≤ 4611686018427387000) : Ev (fun k => laws_heldIntS.f k (markI a l) a) (a + l.length) := heldIntS_l0_ev _ l [] a rfl h0 h1 (by simp; omega)
theorem eqIntS_l0_ev (xs : List Int) (hx : xs.length < 4611686018427387904) : ∀ suf pre, xs = pre ++ suf → Ev (fun k => laws_eqIntS.l0 k xs xs (pre.length : Int)) true := by
  intro suf
  induction suf with
  | nil =>
    intro pre h
    refine Ev.step (fun k => by rw [laws_eqIntS.l0]) ?_
    have hlt : ¬ ((pre.length : Int) < (xs.length : Int)) := by rw [h]; simp
    simp only [if_neg hlt]
    exact Ev.now _
  | cons s suf ih =>
    intro pre h
    have hl2 : xs.length = pre.length + (suf.length + 1) := by rw [h, List.length_append, List.length_cons]
    have hlt : (pre.length : Int) < (xs.length : Int) := by omega
    have hw := wrapn pre.length (by omega)
    have hr := ih (pre ++ [s]) (by rw [h]; simp)
    rw [List.length_append, List.length_singleton] at hr
    refine Ev.step (fun k => by rw [laws_eqIntS.l0]) ?_
    simp only [if_pos hlt, if_pos (nn _), hw, if_true]
    exact hr
theorem eqIntS_ev (xs : List Int) (hx : xs.length < 4611686018427387904) : Ev (fun k => laws_eqIntS.f k xs xs) true := by
  unfold laws_eqIntS.f
  simp only [if_true]
  exact eqIntS_l0_ev xs hx xs [] rfl
theorem heldI_calls (A : Option Addr) (c : Nat) (l : List Int) (w : World) (hr : Kd.C (Kd.int .i64) w A l.length (markI 1 l)) (hc : l.length ≤ c) (hl : l.length ≤ 1048576) :
    Calls Try.prog 41 #[.slice A l.length c, .int .i64 1] w fun e w' => e = .returned (.int .i64 (1 + l.length)) ∧ Drawn0 w w' := by
  obtain ⟨k, hk⟩ := rounds_of (heldIntS_ev l 1 (by decide) (by omega))
  have := laws_heldIntS.calls k A c (markI 1 l) 1 (1 + l.length) w (by rw [markI_len]; exact hr) (by rw [markI_len]; exact hc) hk
  rw [markI_len] at this
  exact this
open Go.Proofs.Ytplekidnlofioaa.Opens in
theorem big_ofP {l : List S144} (h : okL 40 ok144 l) : l.length ≤ 140737488351232 ∧ ∀ s ∈ l, bigP s := by
  have e : reachBytes = 140737488351232 := rfl
  refine ⟨by have := h.1; rw [e] at this; omega, fun s hs => ?_⟩
  obtain ⟨h1, _⟩ := h.2 s hs
  unfold okS at h1
  rw [e] at h1
  exact h1
end Go.Proofs.Ytplekidnlofioaa.Q
namespace Go.Proofs.Ytplekidnlofioaa.Q
open Go.RowKit Go.Proofs.YtplekidnlofioaaW.PrintWords Go.Proofs.YtplekidnlofioaaW.PrintLast Go.Proofs.YtplekidnlofioaaW.PrintMore
attribute [local go_sem] max2_int min2_int max_two min_two max_three min_three max_four min_four   -- for this text's walks alone
set_option linter.unusedVariables false
set_option linter.unusedSimpArgs false

/-! ### laws_toRules: function 35 -/
def laws_toRules.f (a0_0 : Int) (a0_1 : Int) (a0_2 : Int) : Option (Int × Int × Int) := some (a0_0, a0_1, a0_2)
set_option maxHeartbeats 8000000 in
set_option maxRecDepth 100000 in
theorem laws_toRules.calls (a0_0 : Int) (a0_1 : Int) (a0_2 : Int) (r1 : Int) (r2 : Int) (r3 : Int) (w : World) (h : laws_toRules.f a0_0 a0_1 a0_2 = some (r1, r2, r3)) :
 Calls Try.prog 35 #[.agg #[.int .i64 a0_0, .int .i64 a0_1, .int .i64 a0_2]] w fun e w' => e = .returned (.agg #[.int .i64 r1, .int .i64 r2, .int .i64 r3]) ∧ Below w.heap.size w w' := by
 have hu56 := Try.underlying56
 have hu61 := Try.underlying61
 have HB := Aside0.mk (Below.refl w.heap.size w)
 have H : (some (a0_0, a0_1, a0_2)) = some (r1, r2, r3) := h
 clear h
 simp only [Option.some.injEq, Prod.mk.injEq] at H
 obtain ⟨rfl, rfl, rfl⟩ := H
 go_enter Try.func35, Try.ntmps35
 go_wp2_with (first | ((with_reducible refine gate_dst (N := 1) rfl ?_); refine bx 1 #[.int .i64 a0_0, .int .i64 a0_1, .int .i64 a0_2] 56 ?_; intro gb429 hg w2 hbox hb; have BK429 := ak hbox; have GW429 := gs hg bl; have GE429 := gs hg bl; replace HB := ak (below_step bl hb); clear hb hbox hg) | ((with_reducible refine gate_dst (N := 2) rfl ?_); refine bx 2 #[.int .i64 0, .int .i64 0, .int .i64 0] 61 ?_; intro gb430 hg w3 hbox hb; have BK430 := ak hbox; have GW430 := gs hg (bl1 GE429); have GE430 := gs hg (bl1 GE429); replace HB := ak (below_step (bl1 GE429) hb); have NB429_430 := nl hg BK429; have NB430_429 := ng hg BK429; replace BK429 := bb BK429 hb; clear hb hbox hg) | ((with_reducible refine gate_dst (N := 3) rfl ?_); refine bx 3 #[.int .i64 0, .int .i64 0, .int .i64 0] 61 ?_; intro gb431 hg w4 hbox hb; have BK431 := ak hbox; have GW431 := gs hg (bl2 GE429 GE430); have GE431 := gs hg (bl2 GE429 GE430); replace HB := ak (below_step (bl2 GE429 GE430) hb); have NB429_431 := nl hg BK429; have NB431_429 := ng hg BK429; replace BK429 := bb BK429 hb; have NB430_431 := nl hg BK430; have NB431_430 := ng hg BK430; replace BK430 := bb BK430 hb; clear hb hbox hg; have hnb5 := NB429_430.out; have hnc5 := NB430_429.out; have hnb6 := NB429_431.out; have hnc6 := NB431_429.out; obtain ⟨hcz7_0, hcz7_1, hcz7_2, hfz7_0, hfz7_1, hfz7_2⟩ := cz3 BK429; have hnb8 := NB431_430.out; have hnc8 := NB430_431.out; obtain ⟨hcz9_0, hcz9_1, hcz9_2, hfz9_0, hfz9_1, hfz9_2⟩ := cz3 BK431; obtain ⟨hcz10_0, hcz10_1, hcz10_2, hfz10_0, hfz10_1, hfz10_2⟩ := cz3 BK430))
 refine bodyPost_ret (results_cell_row rfl _ _ gb430 61 #[.int .i64 a0_0, .int .i64 a0_1, .int .i64 a0_2] (0, 0) _ rfl (by (with_reducible repeat (first | refine blk_drewN ?_ _ | refine blk_drew ?_ | refine blk_alloc ?_ _)); refine blk_put (cs := #[.int .i64 a0_0, .int .i64 a0_1, .int .i64 0]) ?_ 2 _ rfl; (with_reducible repeat (first | refine blk_drewN ?_ _ | refine blk_drew ?_ | refine blk_alloc ?_ _)); refine blk_put (cs := #[.int .i64 a0_0, .int .i64 0, .int .i64 0]) ?_ 1 _ rfl; (with_reducible repeat (first | refine blk_drewN ?_ _ | refine blk_drew ?_ | refine blk_alloc ?_ _)); refine blk_put (cs := #[.int .i64 0, .int .i64 0, .int .i64 0]) ?_ 0 _ rfl; (with_reducible repeat (first | refine blk_drewN ?_ _ | refine blk_drew ?_ | refine blk_alloc ?_ _)); refine blk_far ?_ NB430_431.out _; (with_reducible repeat (first | refine blk_drewN ?_ _ | refine blk_drew ?_ | refine blk_alloc ?_ _)); refine blk_far ?_ NB430_431.out _; (with_reducible repeat (first | refine blk_drewN ?_ _ | refine blk_drew ?_ | refine blk_alloc ?_ _)); refine blk_far ?_ NB430_431.out _; (with_reducible repeat (first | refine blk_drewN ?_ _ | refine blk_drew ?_ | refine blk_alloc ?_ _)); exact BK430.out) Try.underlying61 rfl (by kernel_rfl)) rfl ?_
 exact ⟨ew, bl3 GE429 GE430 GE431⟩

end Go.Proofs.Ytplekidnlofioaa.Q
namespace Go.Proofs.Ytplekidnlofioaa.Q
open Go.Proofs.Ytplekidnlofioaa.Opens Go.RowKit Go.Proofs.YtplekidnlofioaaW.PrintWords Go.Proofs.YtplekidnlofioaaW.PrintLast Go.Proofs.YtplekidnlofioaaW.PrintMore
attribute [local go_sem] max2_int min2_int max_two min_two max_three min_three max_four min_four
set_option linter.unusedVariables false
set_option linter.unusedSimpArgs false
theorem classes_tab10 : rtab .any (opsOf Try.f6 10) = (true, [([], []), ([0], [0]), ([], []), ([2, 1], [2]), ([], []), ([], []), ([], []), ([6, 3], [6]), ([1, 3, 4, 5, 7, 7], [1, 3, 4, 5, 7]), ([8, 8, 0, 1, 2, 3, 4, 5, 6, 7, 8], [8])]) := by kernel_rfl
theorem classes_bits10 : waitsOk ((true, [([], []), ([0], [0]), ([], []), ([2, 1], [2]), ([], []), ([], []), ([], []), ([6, 3], [6]), ([1, 3, 4, 5, 7, 7], [1, 3, 4, 5, 7]), ([8, 8, 0, 1, 2, 3, 4, 5, 6, 7, 8], [8])]) : Bool × List (List Nat × List Nat)).2 [0, 1, 0, 7, 0, 0, 0, 79, 255, 511] = true := by kernel_rfl
theorem classes_tab33 : rtab .any (opsOf Try.f6 33) = (true, [([], []), ([0], [0]), ([], []), ([2, 1], [2]), ([], []), ([], []), ([], []), ([6, 3], [6]), ([1, 3, 4, 5, 7, 7], [1, 3, 4, 5, 7]), ([8, 8, 0, 1, 2, 3, 4, 5, 6, 7, 8], [8])]) := by kernel_rfl
theorem classes_bits33 : waitsOk ((true, [([], []), ([0], [0]), ([], []), ([2, 1], [2]), ([], []), ([], []), ([], []), ([6, 3], [6]), ([1, 3, 4, 5, 7, 7], [1, 3, 4, 5, 7]), ([8, 8, 0, 1, 2, 3, 4, 5, 6, 7, 8], [8])]) : Bool × List (List Nat × List Nat)).2 [0, 1, 0, 7, 0, 0, 0, 79, 255, 511] = true := by kernel_rfl
set_option maxHeartbeats 16000000 in
set_option maxRecDepth 100000 in
theorem classesOf_true (A0 : Option Addr) (c0 : Nat) (ps : List S144) (A1 : Option Addr) (c1 : Nat) (l : List S137) (a : ByteArray) (now : Int) (x : S56) (w : World) (hr0 : Kd.C k144 w A0 ps.length ps) (hc0 : ps.length ≤ c0) (hr1 : Kd.C k137 w A1 l.length l) (hc1 : l.length ≤ c1)
    (hok0 : okL 40 ok144 ps) (hok1 : okL 56 ok137 l) (_ : okS a) (_ : okI .i64 now) (_ : ok56 x) :
    Calls Try.prog 6 #[.slice A0 ps.length c0, .slice A1 l.length c1, .string a, .int .i64 now, .agg #[.int .i64 x.f0, .int .i64 x.f1, .int .i64 x.f2]] w fun e w' => e = .returned (.bool true) ∧ Below w.heap.size w w' := by
  obtain ⟨hb1, hb2⟩ := big_ofS hok1
  obtain ⟨hp1, hp2⟩ := big_ofP hok0
  have HR0 := ak hr0
  have HC0 := ak hc0
  have HR1 := ak hr1
  have HC1 := ak hc1
  have HB := ak (Below.refl w.heap.size w)
  by_cases ca : (a.size : Int) > 1048576
  · have ca1 : decide (1048576 < (a.size : Int)) = true := decide_eq_true ca
    have ca2 : decide (1048576 < a.size) = true := decide_eq_true (by omega)
    clear ca hb1 hb2 hp1 hp2 hr0 hc0 hr1 hc1 hok0 hok1
    go_enter Try.func6, Try.ntmps6
    go_wp2_with (first | ((with_reducible refine gate_dst (N := 9) rfl ?_); refine bx 9 #[.int .i64 x.f0, .int .i64 x.f1, .int .i64 x.f2] 56 ?_; intro gb hg w1 hbox hb; have BKb := ak hbox; have LTb := ak (blk_lt hbox); have SZ0 := ak hb.size; replace HB := ak (below_step HB.out hb); clear hb hbox hg))
    go_ret
    exact ⟨rfl, HB.out⟩
  have ca1 : decide (1048576 < (a.size : Int)) = false := decide_eq_false ca
  have ca2 : decide (1048576 < a.size) = false := decide_eq_false (by omega)
  obtain ⟨kz, hkz⟩ := rounds_of (szPodS_ev ps hp1 hp2 1048576 (by decide) (by decide))
  by_cases d : (1048576 : Int) - ps.length - wPL ps < 0
  · rw [cutN_neg d] at hkz
    have KZ := ak hkz
    clear hkz d ca hb1 hb2 hp1 hp2 hr0 hc0 hr1 hc1 hok0 hok1
    go_enter Try.func6, Try.ntmps6
    go_wp2_with (first | ((with_reducible refine gate_dst (N := 9) rfl ?_); refine bx 9 #[.int .i64 x.f0, .int .i64 x.f1, .int .i64 x.f2] 56 ?_; intro gb hg w1 hbox hb; have BKb := ak hbox; have LTb := ak (blk_lt hbox); have SZ0 := ak hb.size; replace HB := ak (below_step HB.out hb); clear hb hbox hg) | ((with_reducible refine gate_dst (N := 25) rfl ?_); refine gl (some 25) Try.func32 #[.slice A0 ps.length c0, .int .i64 1048576] ?_; (refine (laws_szPodS.calls _ _ _ ps 1048576 (-1) _ ?s0 HC0.out KZ.out).mono ?_); (case s0 => exact cb HR0); rintro e w2 ⟨rfl, hb⟩; refine ⟨_, rfl, ?_⟩; replace BKb := ak (blk_below BKb.out hb); have SZ1 := ak hb.size; replace HB := ak (below_step HB.out hb); clear hb))
    go_ret
    exact ⟨rfl, HB.out⟩
  rw [cutN_nn d] at hkz
  have hn0 := wPL_nn ps
  obtain ⟨r1, hr1_⟩ : ∃ r, r = (1048576 : Int) - ps.length - wPL ps := ⟨_, rfl⟩
  rw [← hr1_] at hkz d
  have e0 : decide (r1 < 0) = false := decide_eq_false d
  have KZ := ak hkz
  obtain ⟨ky, hky⟩ := rounds_of (szSeriesS_ev l hb1 hb2 r1 (by omega) (by omega))
  by_cases d2 : r1 - l.length - wL l < 0
  · rw [cutN_neg d2] at hky
    have KY := ak hky
    clear hkz hky d d2 ca hn0 hr1_ hb1 hb2 hp1 hp2 hr0 hc0 hr1 hc1 hok0 hok1
    go_enter Try.func6, Try.ntmps6
    go_wp2_with (first | ((with_reducible refine gate_dst (N := 9) rfl ?_); refine bx 9 #[.int .i64 x.f0, .int .i64 x.f1, .int .i64 x.f2] 56 ?_; intro gb hg w1 hbox hb; have BKb := ak hbox; have LTb := ak (blk_lt hbox); have SZ0 := ak hb.size; replace HB := ak (below_step HB.out hb); clear hb hbox hg) | ((with_reducible refine gate_dst (N := 25) rfl ?_); refine gl (some 25) Try.func32 #[.slice A0 ps.length c0, .int .i64 1048576] ?_; (refine (laws_szPodS.calls _ _ _ ps 1048576 r1 _ ?s0 HC0.out KZ.out).mono ?_); (case s0 => exact cb HR0); rintro e w2 ⟨rfl, hb⟩; refine ⟨_, rfl, ?_⟩; replace BKb := ak (blk_below BKb.out hb); have SZ1 := ak hb.size; replace HB := ak (below_step HB.out hb); clear hb) | ((with_reducible refine gate_dst (N := 30) rfl ?_); refine gl (some 30) Try.func21 #[.slice A1 l.length c1, .int .i64 r1] ?_; (refine (laws_szSeriesS.calls _ _ _ l r1 (-1) _ ?s0 HC1.out KY.out).mono ?_); (case s0 => exact cb HR1); rintro e w3 ⟨rfl, hb⟩; refine ⟨_, rfl, ?_⟩; replace BKb := ak (blk_below BKb.out hb); have SZ2 := ak hb.size; replace HB := ak (below_step HB.out hb); clear hb))
    go_ret
    exact ⟨rfl, HB.out⟩
  rw [cutN_nn d2] at hky
  have hn := wL_nn l
  have hxp : ps.length ≤ 1048576 := by omega
  have hxl : l.length ≤ 1048576 := by omega
  have hpl : ∀ s ∈ l, s.f2.length ≤ 1048576 := fun s hs => by have := wL_mem2 hs; omega
  have hwl : ∀ s ∈ l, wS s ≤ 1048576 := fun s hs => by have := wL_mem hs; omega
  have hwp : ∀ s ∈ ps, wP s ≤ 1048576 := fun s hs => by have := wPL_mem hs; omega
  obtain ⟨r2, hr2_⟩ : ∃ r, r = r1 - l.length - wL l := ⟨_, rfl⟩
  rw [← hr2_] at hky d2
  have e5 : decide (r2 < 0) = false := decide_eq_false d2
  have KY := ak hky
  obtain ⟨X, hX⟩ : ∃ X, X = l.map toS := ⟨_, rfl⟩
  obtain ⟨PX, hPX⟩ : ∃ X, X = ps.map toPd := ⟨_, rfl⟩
  have hX1 : X.length ≤ 1048576 := by rw [hX, List.length_map]; exact hxl
  have hP1 : PX.length ≤ 1048576 := by rw [hPX, List.length_map]; exact hxp
  have hX2 : ∀ s ∈ X, s.f2.length ≤ 1048576 := fun s hs => by
    rw [hX] at hs
    obtain ⟨y, hy, rfl⟩ := List.mem_map.1 hs
    show (y.f2.map toP).length ≤ _
    rw [List.length_map]
    exact hpl y hy
  have hX3 : ∀ s ∈ X, fitS s := by rw [hX]; exact fit_toS hwl
  have hP3 : ∀ s ∈ PX, fitP s := by rw [hPX]; exact fit_toPd hwp
  have hX4 : mkN X ≤ 2 * l.length + 2 * wL l := by rw [hX]; exact mkN_toS l
  have hX5 := mkN_nn X
  have hT := toSeriesS_ev l hxl hpl
  rw [← hX] at hT
  have hTP := toPodS_ev ps hxp
  rw [← hPX] at hTP
  obtain ⟨R, hR⟩ : ∃ R, R = classesV PX X a now x.f0 x.f1 x.f2 := ⟨_, rfl⟩
  have hR1 : R.length ≤ 1048576 := by rw [hR]; exact Nat.le_trans (classesV_len _ _ _ _ _ _ _) hP1
  have hS := spec_ClassesOf_ev PX hP3 X (by omega) hX3 a now x.f0 x.f1 x.f2
  have hI := impl_ClassesOf_ev PX (by omega) hP3 X (by omega) hX3 a now x.f0 x.f1 x.f2
  rw [← hR] at hS hI
  obtain ⟨ks_, hks_⟩ := rounds_of hS
  obtain ⟨ki_, hki_⟩ := rounds_of hI
  obtain ⟨kt_, hkt_⟩ := rounds_of hT
  obtain ⟨ktp_, hktp_⟩ := rounds_of hTP
  obtain ⟨ke_, hke_⟩ := rounds_of (eqIntS_ev R (by omega))
  obtain ⟨kp_, hkp_⟩ := rounds_of (eqPodS_ev PX (by omega))
  obtain ⟨kx_, hkx_⟩ := rounds_of (eqSeriesS_ev X (by omega) (fun s hs => by have := hX2 s hs; omega))
  obtain ⟨mp, hmp⟩ := markPodS_ev PX 1 (by decide) (by omega) hP1
  obtain ⟨kmp_, hkmp_⟩ := rounds_of hmp
  obtain ⟨kmi_, hkmi_⟩ := rounds_of (markIntS_ev R 1 (by decide) (by omega))
  have KS := ak hks_
  have KI := ak hki_
  have KT1 := ak hkt_
  have KT0 := ak hktp_
  have KE := ak hke_
  have KP := ak hkp_
  have KX := ak hkx_
  have KMP := ak hkmp_
  have KMI := ak hkmi_
  have MR := ak hR1
  have MX := ak (show (0 : Int) ≤ 1 + 4 * (PX.length : Int) ∧ 1 + 4 * (PX.length : Int) + mkN X ≤ 4611686018427387000 ∧ X.length ≤ 4611686018427387000 from ⟨by omega, by omega, by omega⟩)
  have e1 : decide (1 + 4 * (PX.length : Int) + mkN X < 0) = false := decide_eq_false (by omega)
  have e2 : decide (1 + (R.length : Int) < 0) = false := decide_eq_false (by omega)
  clear hkz hky hks_ hki_ hkt_ hktp_ hke_ hkp_ hkx_ hkmp_ hmp hkmi_ hS hI hT hTP hR hR1 hX hPX hX1 hX2 hX3 hX4 hX5 hP1 hP3 hwl hwp hpl hxl hxp hn hn0 hr1_ hr2_ d d2 ca hb1 hb2 hp1 hp2 hr0 hc0 hr1 hc1 hok0 hok1
  go_enter Try.func6, Try.ntmps6
  try go_wp2_with (first | ((with_reducible refine gate_dst (N := 9) rfl ?_); refine bx 9 #[.int .i64 x.f0, .int .i64 x.f1, .int .i64 x.f2] 56 ?_; intro gb hg w1 hbox hb; have BKb := ak hbox; have LTb := ak (blk_lt hbox); have SZ0 := ak hb.size; replace HB := ak (below_step HB.out hb); clear hb hbox hg) | ((with_reducible refine gate_dst (N := 25) rfl ?_); refine gl (some 25) Try.func32 #[.slice A0 ps.length c0, .int .i64 1048576] ?_; (refine (laws_szPodS.calls _ _ _ ps 1048576 r1 _ ?s0 HC0.out KZ.out).mono ?_); (case s0 => exact cb HR0); rintro e w2 ⟨rfl, hb⟩; refine ⟨_, rfl, ?_⟩; replace BKb := ak (blk_below BKb.out hb); have SZ1 := ak hb.size; replace HB := ak (below_step HB.out hb); clear hb) | ((with_reducible refine gate_dst (N := 30) rfl ?_); refine gl (some 30) Try.func21 #[.slice A1 l.length c1, .int .i64 r1] ?_; (refine (laws_szSeriesS.calls _ _ _ l r1 r2 _ ?s0 HC1.out KY.out).mono ?_); (case s0 => exact cb HR1); rintro e w3 ⟨rfl, hb⟩; refine ⟨_, rfl, ?_⟩; replace BKb := ak (blk_below BKb.out hb); have SZ2 := ak hb.size; replace HB := ak (below_step HB.out hb); clear hb))
  have hb := (below_drew (Below.refl w3.heap.size w3) : Below w3.heap.size w3 w3.drew)
  replace BKb := ak (blk_below BKb.out hb)
  have SZ3 := ak hb.size
  replace HB := ak (below_step HB.out hb)
  clear hb
  refine start_ (n := 10) (S := fun w' => w'.cell? ⟨gb, 0, none⟩ = some (.int .i64 x.f0) ∧ w'.cell? ⟨gb, 1, none⟩ = some (.int .i64 x.f1) ∧ w'.cell? ⟨gb, 2, none⟩ = some (.int .i64 x.f2)) (ds := []) (bitsA 10 0) (by kernel_rfl) rfl rfl ⟨bc BKb 0, bc BKb 1, bc BKb 2⟩ (fun hHeld => ?_)
  refine with_tabW classes_tab10 classes_bits10 (fun HT_ HW_ => ?_)
  generalize w3.drew = w4 at BKb SZ3 HB hHeld ⊢
  refine pu 0 (some 33) (bitsA 10 1) ?_
  refine pu 2 (some 35) (bitsA 10 5) ?_
  refine pu 4 (some 37) (bitsA 10 21) ?_
  refine pu 5 (some 38) (bitsA 10 53) ?_
  refine tk 6 (some 39) (bitsA 10 117) hHeld ?_ (hy := Or.inl ⟨by rfl, by rintro w' ⟨s0, s1, s2⟩; go_simp; with_reducible rfl⟩)
  refine one_ (i := 1) (N := some 34) (bitsA 10 119) rfl rfl (one_of HT_.out (by kernel_rfl)) (by decide) (fun K hK => ?_)
  refine goes_ Try.func34 (by kernel_rfl) rfl #[.slice A0 ps.length c0] (by rfl) rfl rfl mt ?_
  (refine (laws_toPodS.calls _ _ _ ps PX _ ?s0 HC0.out KT0.out).mono ?_)
  (case s0 => exact cb HR0)
  rintro e w5 ⟨v_, rfl, ho, hb⟩
  refine ⟨_, rfl, ?_⟩
  obtain ⟨AOa, COa, ex⟩ := Kd.R_slice ho
  subst ex
  replace BKb := ak (blk_below BKb.out hb)
  have Xa := ak (ivR_new (w := w) (W := w4) ho HB.out.size)
  have SZ4 := ak hb.size
  replace HB := ak (below_step HB.out hb)
  clear hb ho
  refine hK.out _ _ ⟨bc BKb 0, bc BKb 1, bc BKb 2⟩ (fun hHeld => ?_)
  clear hK K
  refine nm ?_
  refine one_ (i := 3) (N := some 36) (bitsA 10 127) rfl rfl (one_of HT_.out (by kernel_rfl)) (by decide) (fun K hK => ?_)
  refine goes_ Try.func23 (by kernel_rfl) rfl #[.slice A1 l.length c1] (by rfl) rfl rfl mt ?_
  (refine (laws_toSeriesS.calls _ _ _ l X _ ?s0 HC1.out KT1.out).mono ?_)
  (case s0 => exact cb HR1)
  rintro e w6 ⟨v_, rfl, ho, hb⟩
  refine ⟨_, rfl, ?_⟩
  obtain ⟨AOb, COb, ex⟩ := Kd.S_slice ho
  subst ex
  replace Xa := ak (ivR_below Xa.out hb)
  replace BKb := ak (blk_below BKb.out hb)
  have Xb := ak (ivS_new (w := w) (W := w5) ho HB.out.size)
  have SZ5 := ak hb.size
  replace HB := ak (below_step HB.out hb)
  clear hb ho
  refine hK.out _ _ ⟨bc BKb 0, bc BKb 1, bc BKb 2⟩ (fun hHeld => ?_)
  clear hK K
  refine nm ?_
  refine one_ (i := 7) (N := some 40) (bitsA 10 255) rfl rfl (one_of HT_.out (by kernel_rfl)) (by decide) (fun K hK => ?_)
  refine goes_ Try.func35 (by kernel_rfl) rfl #[.agg #[.int .i64 x.f0, .int .i64 x.f1, .int .i64 x.f2]] (by rfl) rfl rfl mt ?_
  (refine (laws_toRules.calls x.f0 x.f1 x.f2 x.f0 x.f1 x.f2 _ rfl).mono ?_)
  rintro e w7 ⟨rfl, hb⟩
  refine ⟨_, rfl, ?_⟩
  replace Xa := ak (ivR_below Xa.out hb)
  replace Xb := ak (ivS_below Xb.out hb)
  replace BKb := ak (blk_below BKb.out hb)
  have SZ6 := ak hb.size
  replace HB := ak (below_step HB.out hb)
  clear hb
  refine hK.out _ _ ⟨bc BKb 0, bc BKb 1, bc BKb 2⟩ (fun hHeld => ?_)
  clear hK K
  refine nm ?_
  refine one_ (i := 8) (N := some 41) (bitsA 10 511) rfl rfl (one_of HT_.out (by kernel_rfl)) (by decide) (fun K hK => ?_)
  refine goes_ Try.func33 (by kernel_rfl) rfl #[.slice AOa (PX).length COa, .slice AOb (X).length COb, .string a, .int .i64 now, .agg #[.int .i64 x.f0, .int .i64 x.f1, .int .i64 x.f2]] (by rfl) rfl rfl mt ?_
  (refine (spec_ClassesOf.calls _ _ _ PX _ _ X a now x.f0 x.f1 x.f2 R _ ?s0 ?s1 ?s2 ?s3 KS.out).mono ?_)
  (case s0 => exact ivR_read Xa.out)
  (case s1 => exact ivR_room Xa.out)
  (case s2 => exact ivS_read Xb.out)
  (case s3 => exact ivS_room Xb.out)
  rintro e w8 ⟨v_, rfl, ho, hb⟩
  refine ⟨_, rfl, ?_⟩
  obtain ⟨AOw, COw, ex⟩ := Kd.R_slice ho
  subst ex
  replace Xa := ak (ivR_below Xa.out hb)
  replace Xb := ak (ivS_below Xb.out hb)
  replace BKb := ak (blk_below BKb.out hb)
  have Xw := ak (ivR_new (w := w) (W := w7) ho HB.out.size)
  have SZ7 := ak hb.size
  replace HB := ak (below_step HB.out hb)
  clear hb ho
  refine hK.out _ _ ⟨bc BKb 0, bc BKb 1, bc BKb 2⟩ (fun hHeld => ?_)
  clear hK K
  refine nm ?_
  refine pu 9 (some 12) (bitsA 10 1023) ?_
  refine done_ (done_of HT_.out (by kernel_rfl)) ?_
  go_upto_region 33 with (first | ((with_reducible refine gate_dst (N := 43) rfl ?_); refine gl (some 43) Try.func34 #[.slice A0 ps.length c0] ?_; (refine (laws_toPodS.calls _ _ _ ps PX _ ?s0 HC0.out KT0.out).mono ?_); (case s0 => exact cb HR0); rintro e w9 ⟨v_, rfl, ho, hb⟩; refine ⟨_, rfl, ?_⟩; obtain ⟨AOx, COx, ex⟩ := Kd.R_slice ho; subst ex; replace Xa := ak (ivR_below Xa.out hb); replace Xb := ak (ivS_below Xb.out hb); replace Xw := ak (ivR_below Xw.out hb); replace BKb := ak (blk_below BKb.out hb); have Xx := ak (ivR_new (w := w) (W := w8) ho HB.out.size); have SZ8 := ak hb.size; replace HB := ak (below_step HB.out hb); clear hb ho) | ((with_reducible refine gate_dst (N := 45) rfl ?_); refine gl (some 45) Try.func23 #[.slice A1 l.length c1] ?_; (refine (laws_toSeriesS.calls _ _ _ l X _ ?s0 HC1.out KT1.out).mono ?_); (case s0 => exact cb HR1); rintro e w10 ⟨v_, rfl, ho, hb⟩; refine ⟨_, rfl, ?_⟩; obtain ⟨AOy, COy, ex⟩ := Kd.S_slice ho; subst ex; replace Xa := ak (ivR_below Xa.out hb); replace Xb := ak (ivS_below Xb.out hb); replace Xw := ak (ivR_below Xw.out hb); replace Xx := ak (ivR_below Xx.out hb); replace BKb := ak (blk_below BKb.out hb); have Xy := ak (ivS_new (w := w) (W := w9) ho HB.out.size); have SZ9 := ak hb.size; replace HB := ak (below_step HB.out hb); clear hb ho; obtain ⟨hcz_0, hcz_1, hcz_2, hfz_0, hfz_1, hfz_2⟩ := cz3 BKb) | ((with_reducible refine gate_dst (N := 51) rfl ?_); refine gl (some 51) Try.func35 #[.agg #[.int .i64 x.f0, .int .i64 x.f1, .int .i64 x.f2]] ?_; (refine (laws_toRules.calls x.f0 x.f1 x.f2 x.f0 x.f1 x.f2 _ rfl).mono ?_); rintro e w11 ⟨rfl, hb⟩; refine ⟨_, rfl, ?_⟩; replace Xa := ak (ivR_below Xa.out hb); replace Xb := ak (ivS_below Xb.out hb); replace Xw := ak (ivR_below Xw.out hb); replace Xx := ak (ivR_below Xx.out hb); replace Xy := ak (ivS_below Xy.out hb); replace BKb := ak (blk_below BKb.out hb); have SZ10 := ak hb.size; replace HB := ak (below_step HB.out hb); clear hb) | ((with_reducible refine gate_dst (N := 52) rfl ?_); refine gl (some 52) Try.func36 #[.slice AOx (PX).length COx, .slice AOy (X).length COy, .string a, .int .i64 now, .agg #[.int .i64 x.f0, .int .i64 x.f1, .int .i64 x.f2]] ?_; (refine (impl_ClassesOf.calls _ _ _ PX _ _ X a now x.f0 x.f1 x.f2 R _ ?s0 ?s1 ?s2 ?s3 KI.out).mono ?_); (case s0 => exact ivR_read Xx.out); (case s1 => exact ivR_room Xx.out); (case s2 => exact ivS_read Xy.out); (case s3 => exact ivS_room Xy.out); rintro e w12 ⟨v_, rfl, ho, hb⟩; refine ⟨_, rfl, ?_⟩; obtain ⟨AOg, COg, ex⟩ := Kd.R_slice ho; subst ex; replace Xa := ak (ivR_below Xa.out hb); replace Xb := ak (ivS_below Xb.out hb); replace Xw := ak (ivR_below Xw.out hb); replace Xx := ak (ivR_below Xx.out hb); replace Xy := ak (ivS_below Xy.out hb); replace BKb := ak (blk_below BKb.out hb); have Xg := ak (ivR_new (w := w) (W := w11) ho HB.out.size); have SZ11 := ak hb.size; replace HB := ak (below_step HB.out hb); clear hb ho) | ((with_reducible refine gate_dst (N := 55) rfl ?_); refine gl (some 55) Try.func37 #[.slice AOg (R).length COg, .slice AOw (R).length COw] ?_; (refine (laws_eqIntS.calls _ _ _ _ _ _ _ true _ ?s0 ?s1 ?s2 ?s3 KE.out).mono ?_); (case s0 => exact ivR_read Xg.out); (case s1 => exact ivR_room Xg.out); (case s2 => exact ivR_read Xw.out); (case s3 => exact ivR_room Xw.out); rintro e w13 ⟨rfl, hd⟩; refine ⟨_, rfl, ?_⟩; have hb := drawn_below hd; clear hd; replace Xa := ak (ivR_below Xa.out hb); replace Xb := ak (ivS_below Xb.out hb); replace Xw := ak (ivR_below Xw.out hb); replace Xx := ak (ivR_below Xx.out hb); replace Xy := ak (ivS_below Xy.out hb); replace Xg := ak (ivR_below Xg.out hb); replace BKb := ak (blk_below BKb.out hb); have SZ12 := ak hb.size; replace HB := ak (below_step HB.out hb); clear hb) | ((with_reducible refine gate_dst (N := 59) rfl ?_); refine gl (some 59) Try.func34 #[.slice A0 ps.length c0] ?_; (refine (laws_toPodS.calls _ _ _ ps PX _ ?s0 HC0.out KT0.out).mono ?_); (case s0 => exact cb HR0); rintro e w14 ⟨v_, rfl, ho, hb⟩; refine ⟨_, rfl, ?_⟩; obtain ⟨AOp, COp, ex⟩ := Kd.R_slice ho; subst ex; replace Xa := ak (ivR_below Xa.out hb); replace Xb := ak (ivS_below Xb.out hb); replace Xw := ak (ivR_below Xw.out hb); replace Xx := ak (ivR_below Xx.out hb); replace Xy := ak (ivS_below Xy.out hb); replace Xg := ak (ivR_below Xg.out hb); replace BKb := ak (blk_below BKb.out hb); have Xp := ak (ivR_new (w := w) (W := w13) ho HB.out.size); have SZ13 := ak hb.size; replace HB := ak (below_step HB.out hb); clear hb ho) | ((with_reducible refine gate_dst (N := 60) rfl ?_); refine gl (some 60) Try.func38 #[.slice AOx (PX).length COx, .slice AOp (PX).length COp] ?_; (refine (laws_eqPodS.calls _ _ _ _ _ _ _ true _ ?s0 ?s1 ?s2 ?s3 KP.out).mono ?_); (case s0 => exact ivR_read Xx.out); (case s1 => exact ivR_room Xx.out); (case s2 => exact ivR_read Xp.out); (case s3 => exact ivR_room Xp.out); rintro e w15 ⟨rfl, hb⟩; refine ⟨_, rfl, ?_⟩; replace Xa := ak (ivR_below Xa.out hb); replace Xb := ak (ivS_below Xb.out hb); replace Xw := ak (ivR_below Xw.out hb); replace Xx := ak (ivR_below Xx.out hb); replace Xy := ak (ivS_below Xy.out hb); replace Xg := ak (ivR_below Xg.out hb); replace Xp := ak (ivR_below Xp.out hb); replace BKb := ak (blk_below BKb.out hb); have SZ14 := ak hb.size; replace HB := ak (below_step HB.out hb); clear hb) | ((with_reducible refine gate_dst (N := 64) rfl ?_); refine gl (some 64) Try.func23 #[.slice A1 l.length c1] ?_; (refine (laws_toSeriesS.calls _ _ _ l X _ ?s0 HC1.out KT1.out).mono ?_); (case s0 => exact cb HR1); rintro e w16 ⟨v_, rfl, ho, hb⟩; refine ⟨_, rfl, ?_⟩; obtain ⟨AOq, COq, ex⟩ := Kd.S_slice ho; subst ex; replace Xa := ak (ivR_below Xa.out hb); replace Xb := ak (ivS_below Xb.out hb); replace Xw := ak (ivR_below Xw.out hb); replace Xx := ak (ivR_below Xx.out hb); replace Xy := ak (ivS_below Xy.out hb); replace Xg := ak (ivR_below Xg.out hb); replace Xp := ak (ivR_below Xp.out hb); replace BKb := ak (blk_below BKb.out hb); have Xq := ak (ivS_new (w := w) (W := w15) ho HB.out.size); have SZ15 := ak hb.size; replace HB := ak (below_step HB.out hb); clear hb ho) | ((with_reducible refine gate_dst (N := 65) rfl ?_); refine gl (some 65) Try.func24 #[.slice AOy (X).length COy, .slice AOq (X).length COq] ?_; (refine (laws_eqSeriesS.calls _ _ _ _ _ _ _ true _ ?s0 ?s1 ?s2 ?s3 KX.out).mono ?_); (case s0 => exact ivS_read Xy.out); (case s1 => exact ivS_room Xy.out); (case s2 => exact ivS_read Xq.out); (case s3 => exact ivS_room Xq.out); rintro e w17 ⟨rfl, hb⟩; refine ⟨_, rfl, ?_⟩; replace Xa := ak (ivR_below Xa.out hb); replace Xb := ak (ivS_below Xb.out hb); replace Xw := ak (ivR_below Xw.out hb); replace Xx := ak (ivR_below Xx.out hb); replace Xy := ak (ivS_below Xy.out hb); replace Xg := ak (ivR_below Xg.out hb); replace Xp := ak (ivR_below Xp.out hb); replace Xq := ak (ivS_below Xq.out hb); replace BKb := ak (blk_below BKb.out hb); have SZ16 := ak hb.size; replace HB := ak (below_step HB.out hb); clear hb) | ((with_reducible refine gate_dst (N := 69) rfl ?_); refine gl (some 69) Try.func39 #[.slice AOx (PX).length COx, .int .i64 1] ?_; (refine (laws_markPodS.calls _ (fun k => w8.heap.size ≤ k ∧ k < w9.heap.size) _ PX 1 (1 + 4 * PX.length) mp w _ ?s0 ?s1 KMP.out).mono ?_); (case s0 => exact HB.out); (case s1 => exact Xx.out); rintro e w18 ⟨rfl, ho, hb, hk⟩; refine ⟨_, rfl, ?_⟩; replace Xa := ak (ivR_kept Xa.out hk (.inl (by have := SZ0.out; have := SZ1.out; have := SZ2.out; have := SZ3.out; have := SZ4.out; have := SZ5.out; have := SZ6.out; have := SZ7.out; have := SZ8.out; have := SZ9.out; have := SZ10.out; have := SZ11.out; have := SZ12.out; have := SZ13.out; have := SZ14.out; have := SZ15.out; have := SZ16.out; omega))); replace Xb := ak (ivS_kept Xb.out hk (.inl (by have := SZ0.out; have := SZ1.out; have := SZ2.out; have := SZ3.out; have := SZ4.out; have := SZ5.out; have := SZ6.out; have := SZ7.out; have := SZ8.out; have := SZ9.out; have := SZ10.out; have := SZ11.out; have := SZ12.out; have := SZ13.out; have := SZ14.out; have := SZ15.out; have := SZ16.out; omega))); replace Xw := ak (ivR_kept Xw.out hk (.inl (by have := SZ0.out; have := SZ1.out; have := SZ2.out; have := SZ3.out; have := SZ4.out; have := SZ5.out; have := SZ6.out; have := SZ7.out; have := SZ8.out; have := SZ9.out; have := SZ10.out; have := SZ11.out; have := SZ12.out; have := SZ13.out; have := SZ14.out; have := SZ15.out; have := SZ16.out; omega))); replace Xy := ak (ivS_kept Xy.out hk (.inr (by have := SZ0.out; have := SZ1.out; have := SZ2.out; have := SZ3.out; have := SZ4.out; have := SZ5.out; have := SZ6.out; have := SZ7.out; have := SZ8.out; have := SZ9.out; have := SZ10.out; have := SZ11.out; have := SZ12.out; have := SZ13.out; have := SZ14.out; have := SZ15.out; have := SZ16.out; omega))); replace Xg := ak (ivR_kept Xg.out hk (.inr (by have := SZ0.out; have := SZ1.out; have := SZ2.out; have := SZ3.out; have := SZ4.out; have := SZ5.out; have := SZ6.out; have := SZ7.out; have := SZ8.out; have := SZ9.out; have := SZ10.out; have := SZ11.out; have := SZ12.out; have := SZ13.out; have := SZ14.out; have := SZ15.out; have := SZ16.out; omega))); replace Xp := ak (ivR_kept Xp.out hk (.inr (by have := SZ0.out; have := SZ1.out; have := SZ2.out; have := SZ3.out; have := SZ4.out; have := SZ5.out; have := SZ6.out; have := SZ7.out; have := SZ8.out; have := SZ9.out; have := SZ10.out; have := SZ11.out; have := SZ12.out; have := SZ13.out; have := SZ14.out; have := SZ15.out; have := SZ16.out; omega))); replace Xq := ak (ivS_kept Xq.out hk (.inr (by have := SZ0.out; have := SZ1.out; have := SZ2.out; have := SZ3.out; have := SZ4.out; have := SZ5.out; have := SZ6.out; have := SZ7.out; have := SZ8.out; have := SZ9.out; have := SZ10.out; have := SZ11.out; have := SZ12.out; have := SZ13.out; have := SZ14.out; have := SZ15.out; have := SZ16.out; omega))); replace BKb := ak (blk_kept BKb.out hk (fun h => by have := LTb.out; have := SZ0.out; have := SZ1.out; have := SZ2.out; have := SZ3.out; have := SZ4.out; have := SZ5.out; have := SZ6.out; have := SZ7.out; have := SZ8.out; have := SZ9.out; have := SZ10.out; have := SZ11.out; have := SZ12.out; have := SZ13.out; have := SZ14.out; have := SZ15.out; have := SZ16.out; omega)); have SZ17 := ak hk.1; replace HB := ak hb; clear hb ho hk) | ((with_reducible refine gate_dst (N := 72) rfl ?_); refine gl (some 72) Try.func25 #[.slice AOy (X).length COy, .int .i64 (1 + 4 * (PX.length : Int))] ?_; (refine (laws_markSeriesS_calls (fun k => w9.heap.size ≤ k ∧ k < w10.heap.size) _ (X) (1 + 4 * (PX.length : Int)) w _ ?s0 ?s1 ?s2 ?s3 ?s4).mono ?_); (case s0 => exact HB.out); (case s1 => exact Xy.out); (case s2 => exact MX.out.1); (case s3 => exact MX.out.2.1); (case s4 => exact MX.out.2.2); rintro e w19 ⟨rfl, ho, hb, hk⟩; refine ⟨_, rfl, ?_⟩; replace Xa := ak (ivR_kept Xa.out hk (.inl (by have := SZ0.out; have := SZ1.out; have := SZ2.out; have := SZ3.out; have := SZ4.out; have := SZ5.out; have := SZ6.out; have := SZ7.out; have := SZ8.out; have := SZ9.out; have := SZ10.out; have := SZ11.out; have := SZ12.out; have := SZ13.out; have := SZ14.out; have := SZ15.out; have := SZ16.out; have := SZ17.out; omega))); replace Xb := ak (ivS_kept Xb.out hk (.inl (by have := SZ0.out; have := SZ1.out; have := SZ2.out; have := SZ3.out; have := SZ4.out; have := SZ5.out; have := SZ6.out; have := SZ7.out; have := SZ8.out; have := SZ9.out; have := SZ10.out; have := SZ11.out; have := SZ12.out; have := SZ13.out; have := SZ14.out; have := SZ15.out; have := SZ16.out; have := SZ17.out; omega))); replace Xw := ak (ivR_kept Xw.out hk (.inl (by have := SZ0.out; have := SZ1.out; have := SZ2.out; have := SZ3.out; have := SZ4.out; have := SZ5.out; have := SZ6.out; have := SZ7.out; have := SZ8.out; have := SZ9.out; have := SZ10.out; have := SZ11.out; have := SZ12.out; have := SZ13.out; have := SZ14.out; have := SZ15.out; have := SZ16.out; have := SZ17.out; omega))); replace Xg := ak (ivR_kept Xg.out hk (.inr (by have := SZ0.out; have := SZ1.out; have := SZ2.out; have := SZ3.out; have := SZ4.out; have := SZ5.out; have := SZ6.out; have := SZ7.out; have := SZ8.out; have := SZ9.out; have := SZ10.out; have := SZ11.out; have := SZ12.out; have := SZ13.out; have := SZ14.out; have := SZ15.out; have := SZ16.out; have := SZ17.out; omega))); replace Xp := ak (ivR_kept Xp.out hk (.inr (by have := SZ0.out; have := SZ1.out; have := SZ2.out; have := SZ3.out; have := SZ4.out; have := SZ5.out; have := SZ6.out; have := SZ7.out; have := SZ8.out; have := SZ9.out; have := SZ10.out; have := SZ11.out; have := SZ12.out; have := SZ13.out; have := SZ14.out; have := SZ15.out; have := SZ16.out; have := SZ17.out; omega))); replace Xq := ak (ivS_kept Xq.out hk (.inr (by have := SZ0.out; have := SZ1.out; have := SZ2.out; have := SZ3.out; have := SZ4.out; have := SZ5.out; have := SZ6.out; have := SZ7.out; have := SZ8.out; have := SZ9.out; have := SZ10.out; have := SZ11.out; have := SZ12.out; have := SZ13.out; have := SZ14.out; have := SZ15.out; have := SZ16.out; have := SZ17.out; omega))); replace BKb := ak (blk_kept BKb.out hk (fun h => by have := LTb.out; have := SZ0.out; have := SZ1.out; have := SZ2.out; have := SZ3.out; have := SZ4.out; have := SZ5.out; have := SZ6.out; have := SZ7.out; have := SZ8.out; have := SZ9.out; have := SZ10.out; have := SZ11.out; have := SZ12.out; have := SZ13.out; have := SZ14.out; have := SZ15.out; have := SZ16.out; have := SZ17.out; omega)); have SZ18 := ak hk.1; replace HB := ak hb; clear hb ho hk) | (go_at_call 37; (refine (laws_eqIntS.calls _ _ _ _ _ _ _ true _ ?s0 ?s1 ?s2 ?s3 KE.out).mono ?_); (case s0 => exact ivR_read Xg.out); (case s1 => exact ivR_room Xg.out); (case s2 => exact ivR_read Xw.out); (case s3 => exact ivR_room Xw.out); rintro e w20 ⟨rfl, hd⟩; have hb := drawn_below hd; clear hd; replace Xa := ak (ivR_below Xa.out hb); replace Xb := ak (ivS_below Xb.out hb); replace Xw := ak (ivR_below Xw.out hb); replace Xg := ak (ivR_below Xg.out hb); replace Xp := ak (ivR_below Xp.out hb); replace Xq := ak (ivS_below Xq.out hb); replace BKb := ak (blk_below BKb.out hb); have SZ19 := ak hb.size; replace HB := ak (below_step HB.out hb); clear hb) | ((with_reducible refine gate_dst (N := 83) rfl ?_); refine gl (some 83) Try.func40 #[.slice AOg (R).length COg, .int .i64 1] ?_; (refine (laws_markIntS.calls _ (fun k => w11.heap.size ≤ k ∧ k < w12.heap.size) _ (R) 1 (1 + (R).length) (markI 1 (R)) w _ ?s0 ?s1 KMI.out).mono ?_); (case s0 => exact HB.out); (case s1 => exact Xg.out); rintro e w21 ⟨rfl, ho, hb, hk⟩; refine ⟨_, rfl, ?_⟩; replace Xa := ak (ivR_kept Xa.out hk (.inl (by have := SZ0.out; have := SZ1.out; have := SZ2.out; have := SZ3.out; have := SZ4.out; have := SZ5.out; have := SZ6.out; have := SZ7.out; have := SZ8.out; have := SZ9.out; have := SZ10.out; have := SZ11.out; have := SZ12.out; have := SZ13.out; have := SZ14.out; have := SZ15.out; have := SZ16.out; have := SZ17.out; have := SZ18.out; have := SZ19.out; omega))); replace Xb := ak (ivS_kept Xb.out hk (.inl (by have := SZ0.out; have := SZ1.out; have := SZ2.out; have := SZ3.out; have := SZ4.out; have := SZ5.out; have := SZ6.out; have := SZ7.out; have := SZ8.out; have := SZ9.out; have := SZ10.out; have := SZ11.out; have := SZ12.out; have := SZ13.out; have := SZ14.out; have := SZ15.out; have := SZ16.out; have := SZ17.out; have := SZ18.out; have := SZ19.out; omega))); replace Xw := ak (ivR_kept Xw.out hk (.inl (by have := SZ0.out; have := SZ1.out; have := SZ2.out; have := SZ3.out; have := SZ4.out; have := SZ5.out; have := SZ6.out; have := SZ7.out; have := SZ8.out; have := SZ9.out; have := SZ10.out; have := SZ11.out; have := SZ12.out; have := SZ13.out; have := SZ14.out; have := SZ15.out; have := SZ16.out; have := SZ17.out; have := SZ18.out; have := SZ19.out; omega))); replace Xp := ak (ivR_kept Xp.out hk (.inr (by have := SZ0.out; have := SZ1.out; have := SZ2.out; have := SZ3.out; have := SZ4.out; have := SZ5.out; have := SZ6.out; have := SZ7.out; have := SZ8.out; have := SZ9.out; have := SZ10.out; have := SZ11.out; have := SZ12.out; have := SZ13.out; have := SZ14.out; have := SZ15.out; have := SZ16.out; have := SZ17.out; have := SZ18.out; have := SZ19.out; omega))); replace Xq := ak (ivS_kept Xq.out hk (.inr (by have := SZ0.out; have := SZ1.out; have := SZ2.out; have := SZ3.out; have := SZ4.out; have := SZ5.out; have := SZ6.out; have := SZ7.out; have := SZ8.out; have := SZ9.out; have := SZ10.out; have := SZ11.out; have := SZ12.out; have := SZ13.out; have := SZ14.out; have := SZ15.out; have := SZ16.out; have := SZ17.out; have := SZ18.out; have := SZ19.out; omega))); replace BKb := ak (blk_kept BKb.out hk (fun h => by have := LTb.out; have := SZ0.out; have := SZ1.out; have := SZ2.out; have := SZ3.out; have := SZ4.out; have := SZ5.out; have := SZ6.out; have := SZ7.out; have := SZ8.out; have := SZ9.out; have := SZ10.out; have := SZ11.out; have := SZ12.out; have := SZ13.out; have := SZ14.out; have := SZ15.out; have := SZ16.out; have := SZ17.out; have := SZ18.out; have := SZ19.out; omega)); have SZ20 := ak hk.1; have Rg := ak (ivR_room Xg.out); have Hg := ak (show Kd.C (Kd.int .i64) w21 AOg (R).length (markI 1 (R)) from by have h_ := (Kd.R_reads' ho).2.2; rw [markI_len] at h_; exact h_); replace HB := ak hb; clear hb ho hk) | ((with_reducible refine gate_dst (N := 86) rfl ?_); refine gl (some 86) Try.func41 #[.slice AOg (R).length COg, .int .i64 1] ?_; (refine (heldI_calls _ _ (R) _ ?s0 ?s1 MR.out).mono ?_); (case s0 => exact Hg.out); (case s1 => exact Rg.out); rintro e w22 ⟨rfl, hd⟩; refine ⟨_, rfl, ?_⟩; have hb := drawn_below hd; clear hd; replace Xa := ak (ivR_below Xa.out hb); replace Xb := ak (ivS_below Xb.out hb); replace Xw := ak (ivR_below Xw.out hb); replace Xp := ak (ivR_below Xp.out hb); replace Xq := ak (ivS_below Xq.out hb); replace Hg := ak (Kd.C_below Hg.out hb); replace BKb := ak (blk_below BKb.out hb); have SZ21 := ak hb.size; replace HB := ak (below_step HB.out hb); clear hb))
  have hb := (below_drew (Below.refl w22.heap.size w22) : Below w22.heap.size w22 w22.drew)
  replace Xa := ak (ivR_below Xa.out hb)
  replace Xb := ak (ivS_below Xb.out hb)
  replace Xw := ak (ivR_below Xw.out hb)
  replace Xp := ak (ivR_below Xp.out hb)
  replace Xq := ak (ivS_below Xq.out hb)
  replace Hg := ak (Kd.C_below Hg.out hb)
  replace BKb := ak (blk_below BKb.out hb)
  have SZ22 := ak hb.size
  replace HB := ak (below_step HB.out hb)
  clear hb
  refine start_ (n := 10) (S := fun w' => w'.cell? ⟨gb, 0, none⟩ = some (.int .i64 x.f0) ∧ w'.cell? ⟨gb, 1, none⟩ = some (.int .i64 x.f1) ∧ w'.cell? ⟨gb, 2, none⟩ = some (.int .i64 x.f2)) (ds := []) (bitsA 10 0) (by kernel_rfl) rfl rfl ⟨bc BKb 0, bc BKb 1, bc BKb 2⟩ (fun hHeld => ?_)
  refine with_tabW classes_tab33 classes_bits33 (fun HT_ HW_ => ?_)
  generalize w22.drew = w23 at Xa Xb Xw Xp Xq Hg BKb SZ22 HB hHeld ⊢
  refine pu 0 (some 92) (bitsA 10 1) ?_
  refine pu 2 (some 94) (bitsA 10 5) ?_
  refine pu 4 (some 96) (bitsA 10 21) ?_
  refine pu 5 (some 97) (bitsA 10 53) ?_
  refine tk 6 (some 98) (bitsA 10 117) hHeld ?_ (hy := Or.inl ⟨by rfl, by rintro w' ⟨s0, s1, s2⟩; go_simp; with_reducible rfl⟩)
  refine one_ (i := 1) (N := some 93) (bitsA 10 119) rfl rfl (one_of HT_.out (by kernel_rfl)) (by decide) (fun K hK => ?_)
  refine goes_ Try.func34 (by kernel_rfl) rfl #[.slice A0 ps.length c0] (by rfl) rfl rfl mt ?_
  (refine (laws_toPodS.calls _ _ _ ps PX _ ?s0 HC0.out KT0.out).mono ?_)
  (case s0 => exact cb HR0)
  rintro e w24 ⟨v_, rfl, ho, hb⟩
  refine ⟨_, rfl, ?_⟩
  obtain ⟨AOc, COc, ex⟩ := Kd.R_slice ho
  subst ex
  replace Xa := ak (ivR_below Xa.out hb)
  replace Xb := ak (ivS_below Xb.out hb)
  replace Xw := ak (ivR_below Xw.out hb)
  replace Xp := ak (ivR_below Xp.out hb)
  replace Xq := ak (ivS_below Xq.out hb)
  replace Hg := ak (Kd.C_below Hg.out hb)
  replace BKb := ak (blk_below BKb.out hb)
  have Xc := ak (ivR_new (w := w) (W := w23) ho HB.out.size)
  have SZ23 := ak hb.size
  replace HB := ak (below_step HB.out hb)
  clear hb ho
  refine hK.out _ _ ⟨bc BKb 0, bc BKb 1, bc BKb 2⟩ (fun hHeld => ?_)
  clear hK K
  refine nm ?_
  refine one_ (i := 3) (N := some 95) (bitsA 10 127) rfl rfl (one_of HT_.out (by kernel_rfl)) (by decide) (fun K hK => ?_)
  refine goes_ Try.func23 (by kernel_rfl) rfl #[.slice A1 l.length c1] (by rfl) rfl rfl mt ?_
  (refine (laws_toSeriesS.calls _ _ _ l X _ ?s0 HC1.out KT1.out).mono ?_)
  (case s0 => exact cb HR1)
  rintro e w25 ⟨v_, rfl, ho, hb⟩
  refine ⟨_, rfl, ?_⟩
  obtain ⟨AOd, COd, ex⟩ := Kd.S_slice ho
  subst ex
  replace Xa := ak (ivR_below Xa.out hb)
  replace Xb := ak (ivS_below Xb.out hb)
  replace Xw := ak (ivR_below Xw.out hb)
  replace Xp := ak (ivR_below Xp.out hb)
  replace Xq := ak (ivS_below Xq.out hb)
  replace Xc := ak (ivR_below Xc.out hb)
  replace Hg := ak (Kd.C_below Hg.out hb)
  replace BKb := ak (blk_below BKb.out hb)
  have Xd := ak (ivS_new (w := w) (W := w24) ho HB.out.size)
  have SZ24 := ak hb.size
  replace HB := ak (below_step HB.out hb)
  clear hb ho
  refine hK.out _ _ ⟨bc BKb 0, bc BKb 1, bc BKb 2⟩ (fun hHeld => ?_)
  clear hK K
  refine nm ?_
  refine one_ (i := 7) (N := some 99) (bitsA 10 255) rfl rfl (one_of HT_.out (by kernel_rfl)) (by decide) (fun K hK => ?_)
  refine goes_ Try.func35 (by kernel_rfl) rfl #[.agg #[.int .i64 x.f0, .int .i64 x.f1, .int .i64 x.f2]] (by rfl) rfl rfl mt ?_
  (refine (laws_toRules.calls x.f0 x.f1 x.f2 x.f0 x.f1 x.f2 _ rfl).mono ?_)
  rintro e w26 ⟨rfl, hb⟩
  refine ⟨_, rfl, ?_⟩
  replace Xa := ak (ivR_below Xa.out hb)
  replace Xb := ak (ivS_below Xb.out hb)
  replace Xw := ak (ivR_below Xw.out hb)
  replace Xp := ak (ivR_below Xp.out hb)
  replace Xq := ak (ivS_below Xq.out hb)
  replace Xc := ak (ivR_below Xc.out hb)
  replace Xd := ak (ivS_below Xd.out hb)
  replace Hg := ak (Kd.C_below Hg.out hb)
  replace BKb := ak (blk_below BKb.out hb)
  have SZ25 := ak hb.size
  replace HB := ak (below_step HB.out hb)
  clear hb
  refine hK.out _ _ ⟨bc BKb 0, bc BKb 1, bc BKb 2⟩ (fun hHeld => ?_)
  clear hK K
  refine nm ?_
  refine one_ (i := 8) (N := some 100) (bitsA 10 511) rfl rfl (one_of HT_.out (by kernel_rfl)) (by decide) (fun K hK => ?_)
  refine goes_ Try.func36 (by kernel_rfl) rfl #[.slice AOc (PX).length COc, .slice AOd (X).length COd, .string a, .int .i64 now, .agg #[.int .i64 x.f0, .int .i64 x.f1, .int .i64 x.f2]] (by rfl) rfl rfl mt ?_
  (refine (impl_ClassesOf.calls _ _ _ PX _ _ X a now x.f0 x.f1 x.f2 R _ ?s0 ?s1 ?s2 ?s3 KI.out).mono ?_)
  (case s0 => exact ivR_read Xc.out)
  (case s1 => exact ivR_room Xc.out)
  (case s2 => exact ivS_read Xd.out)
  (case s3 => exact ivS_room Xd.out)
  rintro e w27 ⟨v_, rfl, ho, hb⟩
  refine ⟨_, rfl, ?_⟩
  obtain ⟨AOh, COh, ex⟩ := Kd.R_slice ho
  subst ex
  replace Xa := ak (ivR_below Xa.out hb)
  replace Xb := ak (ivS_below Xb.out hb)
  replace Xw := ak (ivR_below Xw.out hb)
  replace Xp := ak (ivR_below Xp.out hb)
  replace Xq := ak (ivS_below Xq.out hb)
  replace Xc := ak (ivR_below Xc.out hb)
  replace Xd := ak (ivS_below Xd.out hb)
  replace Hg := ak (Kd.C_below Hg.out hb)
  replace BKb := ak (blk_below BKb.out hb)
  have Xh := ak (ivR_new (w := w) (W := w26) ho HB.out.size)
  have SZ26 := ak hb.size
  replace HB := ak (below_step HB.out hb)
  clear hb ho
  refine hK.out _ _ ⟨bc BKb 0, bc BKb 1, bc BKb 2⟩ (fun hHeld => ?_)
  clear hK K
  refine nm ?_
  refine pu 9 (some 19) (bitsA 10 1023) ?_
  refine done_ (done_of HT_.out (by kernel_rfl)) ?_
  go_wp2_with (first | ((with_reducible refine gate_dst (N := 103) rfl ?_); refine gl (some 103) Try.func37 #[.slice AOh (R).length COh, .slice AOw (R).length COw] ?_; (refine (laws_eqIntS.calls _ _ _ _ _ _ _ true _ ?s0 ?s1 ?s2 ?s3 KE.out).mono ?_); (case s0 => exact ivR_read Xh.out); (case s1 => exact ivR_room Xh.out); (case s2 => exact ivR_read Xw.out); (case s3 => exact ivR_room Xw.out); rintro e w28 ⟨rfl, hd⟩; refine ⟨_, rfl, ?_⟩; have hb := drawn_below hd; clear hd; replace Xa := ak (ivR_below Xa.out hb); replace Xb := ak (ivS_below Xb.out hb); replace Xw := ak (ivR_below Xw.out hb); replace Xp := ak (ivR_below Xp.out hb); replace Xq := ak (ivS_below Xq.out hb); replace Xc := ak (ivR_below Xc.out hb); replace Xd := ak (ivS_below Xd.out hb); replace Xh := ak (ivR_below Xh.out hb); replace Hg := ak (Kd.C_below Hg.out hb); replace BKb := ak (blk_below BKb.out hb); have SZ27 := ak hb.size; replace HB := ak (below_step HB.out hb); clear hb) | ((with_reducible refine gate_dst (N := 107) rfl ?_); refine gl (some 107) Try.func41 #[.slice AOg (R).length COg, .int .i64 1] ?_; (refine (heldI_calls _ _ (R) _ ?s0 ?s1 MR.out).mono ?_); (case s0 => exact Hg.out); (case s1 => exact Rg.out); rintro e w29 ⟨rfl, hd⟩; refine ⟨_, rfl, ?_⟩; have hb := drawn_below hd; clear hd; replace Xa := ak (ivR_below Xa.out hb); replace Xb := ak (ivS_below Xb.out hb); replace Xw := ak (ivR_below Xw.out hb); replace Xp := ak (ivR_below Xp.out hb); replace Xq := ak (ivS_below Xq.out hb); replace Xc := ak (ivR_below Xc.out hb); replace Xd := ak (ivS_below Xd.out hb); replace Xh := ak (ivR_below Xh.out hb); replace Hg := ak (Kd.C_below Hg.out hb); replace BKb := ak (blk_below BKb.out hb); have SZ28 := ak hb.size; replace HB := ak (below_step HB.out hb); clear hb))
  go_ret
  exact ⟨rfl, HB.out⟩
end Go.Proofs.Ytplekidnlofioaa.Q
