/- Part 8 of the proof of FnExactPutSample: contracts of the functions that it reaches, printed and by hand, and what they come to in plain Lean. -/
import Derived.Test.YtplekidnlofioaaAFnExactPutSample2
import Derived.Test.YtplekidnlofioaaAFnExactPutSample7
import Derived.KernelRfl
import Derived.Test.YtplekidnlofioaaAFnExactPutSample5
import Derived.Test.YtplekidnlofioaaAFnExactPutSample6
import Derived.Test.YtplekidnlofioaaAFnExactPutSample4
namespace Go.Proofs.Ytplekidnlofioaa.Q
open Go.RowKit Go.Proofs.Ytplekidnlofioaa.Opens Go.Proofs.YtplekidnlofioaaW.PrintWords
structure S56 where
  f0 : Int
  f1 : Int
  f2 : Int
def z56 : S56 := ⟨(0 : Int), (0 : Int), (0 : Int)⟩
instance : Inhabited S37 := ⟨z37⟩
instance : Inhabited S81 := ⟨z81⟩
instance : Inhabited S219 := ⟨z219⟩
def ok219 (y : S219) : Prop := okI .i64 y.f0 ∧ okI .i64 y.f1
theorem opn219 : Opn Try.prog k219 219 ok219 := by
  refine opn_struct (ok := fun p => okI .i64 p.1 ∧ okI .i64 p.2) ?_ Try.underlying219 (by kernel_rfl) (fun x : S219 => (x.f0, x.f1)) (fun p => ⟨p.1, p.2⟩) (fun _ => rfl)
  refine opnF_cons' (P := Try.prog) (ok' := fun (p : Int) => okI .i64 p) (opn_int Try.underlying3) (by kernel_rfl) (by rfl) (by rfl) ?_
  exact opnF_one' (P := Try.prog) (opn_int Try.underlying3) (by kernel_rfl) (by rfl) (by rfl)
instance : Inhabited S137 := ⟨z137⟩
def ok137 (y : S137) : Prop := okS y.f0 ∧ okS y.f1 ∧ okL 16 ok219 y.f2
theorem opn137 : Opn Try.prog k137 137 ok137 := by
  refine opn_struct (ok := fun p => okS p.1 ∧ okS p.2.1 ∧ okL 16 ok219 p.2.2) ?_ Try.underlying137 (by kernel_rfl) (fun x : S137 => (x.f0, x.f1, x.f2)) (fun p => ⟨p.1, p.2.1, p.2.2⟩) (fun _ => rfl)
  refine opnF_cons' (P := Try.prog) (ok' := fun (p : ByteArray × List (S219)) => okS p.1 ∧ okL 16 ok219 p.2) (opn_string Try.underlying9) (by kernel_rfl) (by rfl) (by rfl) ?_
  refine opnF_cons' (P := Try.prog) (ok' := fun (p : List (S219)) => okL 16 ok219 p) (opn_string Try.underlying9) (by kernel_rfl) (by rfl) (by rfl) ?_
  exact opnF_one' (P := Try.prog) (opn_slice opn219 Try.underlying135 (by kernel_rfl) (B := 16) (by kernel_rfl) 219) (by kernel_rfl) (by rfl) (by rfl)
instance : Inhabited S144 := ⟨z144⟩
instance : Inhabited S147 := ⟨z147⟩
instance : Inhabited S30 := ⟨z30⟩
instance : Inhabited S68 := ⟨z68⟩
def ok68 (y : S68) : Prop := okS y.f0 ∧ okS y.f1 ∧ okI .i64 y.f2 ∧ okI .i64 y.f3
theorem opn68 : Opn Try.prog k68 68 ok68 := by
  refine opn_struct (ok := fun p => okS p.1 ∧ okS p.2.1 ∧ okI .i64 p.2.2.1 ∧ okI .i64 p.2.2.2) ?_ Try.underlying68 (by kernel_rfl) (fun x : S68 => (x.f0, x.f1, x.f2, x.f3)) (fun p => ⟨p.1, p.2.1, p.2.2.1, p.2.2.2⟩) (fun _ => rfl)
  refine opnF_cons' (P := Try.prog) (ok' := fun (p : ByteArray × Int × Int) => okS p.1 ∧ okI .i64 p.2.1 ∧ okI .i64 p.2.2) (opn_string Try.underlying9) (by kernel_rfl) (by rfl) (by rfl) ?_
  refine opnF_cons' (P := Try.prog) (ok' := fun (p : Int × Int) => okI .i64 p.1 ∧ okI .i64 p.2) (opn_string Try.underlying9) (by kernel_rfl) (by rfl) (by rfl) ?_
  refine opnF_cons' (P := Try.prog) (ok' := fun (p : Int) => okI .i64 p) (opn_int Try.underlying3) (by kernel_rfl) (by rfl) (by rfl) ?_
  exact opnF_one' (P := Try.prog) (opn_int Try.underlying3) (by kernel_rfl) (by rfl) (by rfl)
instance : Inhabited S223 := ⟨z223⟩
instance : Inhabited S239 := ⟨z239⟩
instance : Inhabited S208 := ⟨z208⟩
instance : Inhabited S210 := ⟨z210⟩
instance : Inhabited S234 := ⟨z234⟩
instance : Inhabited S204 := ⟨z204⟩
instance : Inhabited S167 := ⟨z167⟩
instance : Inhabited S169 := ⟨z169⟩
instance : Inhabited S56 := ⟨z56⟩
end Go.Proofs.Ytplekidnlofioaa.Q
namespace Go.Proofs.Ytplekidnlofioaa.Q
open Go.Proofs.Ytplekidnlofioaa.Opens Go.RowKit Go.Proofs.YtplekidnlofioaaW.PrintWords Go.Proofs.YtplekidnlofioaaW.PrintLast
set_option linter.unusedVariables false
set_option linter.unusedSimpArgs false
section
variable {α : Type} {d : Kd α} {e b lo hi lo2 hi2 n c : Nat} {w W W' : World} {A : Option Addr} {v : Value} {l : List α} {ok : Nat → Prop}
/-- A row of rows whose blocks are lo .. hi - 1. -/
def IvS (d : Kd α) (e b lo hi : Nat) (W : World) (v : Value) (l : List α) : Prop := Kd.S d e W b (fun k => lo ≤ k ∧ k < hi) v l
/-- A row whose blocks are lo .. hi - 1. -/
def IvR (d : Kd α) (e b lo hi : Nat) (W : World) (v : Value) (l : List α) : Prop := Kd.R d e W b (fun k => lo ≤ k ∧ k < hi) v l
theorem ivS_new (h : Kd.S d e W' W.heap.size ok v l) (hb : w.heap.size ≤ W.heap.size) : IvS d e w.heap.size W.heap.size W'.heap.size W' v l :=
  Kd.S_lower (Kd.S_mono (Kd.S_bound h) (fun k hk => ⟨hk.2.1, hk.2.2.1⟩)) hb
theorem ivS_below (h : IvS d e b lo hi W v l) (hb : Below W.heap.size W W') : IvS d e b lo hi W' v l := Kd.S_below h hb
theorem ivS_kept (h : IvS d e b lo hi W v l) (hk : Kept W W' (fun k => lo2 ≤ k ∧ k < hi2)) (hd : hi ≤ lo2 ∨ hi2 ≤ lo) : IvS d e b lo hi W' v l :=
  Kd.S_kept h hk (fun k h1 h2 => by omega)
theorem ivS_read (h : IvS d e b lo hi W (.slice A n c) l) : Kd.C d W A l.length l := (Kd.S_reads' h).2.2
theorem ivS_room (h : IvS d e b lo hi W (.slice A l.length c) l) : l.length ≤ c := (Kd.S_reads' h).2.1
/-- What is only read, and what it leads to, lies in blocks lo .. hi - 1. -/
def IvF (d : Kd α) (lo hi : Nat) (W : World) (A : Option Addr) (l : List α) : Prop := Kd.F d W (fun k => lo ≤ k ∧ k < hi) A l.length l
theorem ivF_new (h : Kd.N d e W' W.heap.size (fun k => W.heap.size ≤ k) (.slice A n c) l) : IvF d W.heap.size W'.heap.size W' A l := by
  have := Kd.N_F (Kd.N_bound h)
  rw [(Kd.N_reads' h).1] at this
  exact this
theorem ivF_below (h : IvF d lo hi W A l) (hb : Below W.heap.size W W') : IvF d lo hi W' A l := Kd.F_below h hb
theorem ivF_kept (h : IvF d lo hi W A l) (hk : Kept W W' (fun k => lo2 ≤ k ∧ k < hi2)) (hd : hi ≤ lo2 ∨ hi2 ≤ lo) : IvF d lo hi W' A l := Kd.F_kept h hk (fun k h1 h2 => by omega)
theorem ivF_read (h : IvF d lo hi W A l) : Kd.C d W A l.length l := Kd.F_now h
theorem ivR_new (h : Kd.R d e W' W.heap.size ok v l) (hb : w.heap.size ≤ W.heap.size) : IvR d e w.heap.size W.heap.size W'.heap.size W' v l :=
  Kd.R_lower (Kd.R_mono (Kd.R_bound h) (fun k hk => ⟨hk.2.1, hk.2.2.1⟩)) hb
theorem ivR_below (h : IvR d e b lo hi W v l) (hb : Below W.heap.size W W') : IvR d e b lo hi W' v l := Kd.R_below h hb
theorem ivR_kept (h : IvR d e b lo hi W v l) (hk : Kept W W' (fun k => lo2 ≤ k ∧ k < hi2)) (hd : hi ≤ lo2 ∨ hi2 ≤ lo) : IvR d e b lo hi W' v l :=
  Kd.R_kept h hk (fun k h1 h2 => by omega)
theorem ivR_read (h : IvR d e b lo hi W (.slice A n c) l) : Kd.C d W A l.length l := (Kd.R_reads' h).2.2
theorem ivR_room (h : IvR d e b lo hi W (.slice A l.length c) l) : l.length ≤ c := (Kd.R_reads' h).2.1
end
theorem drawn_below {w w' : World} (h : Drawn0 w w') : Below w.heap.size w w' := by
  obtain ⟨n, rfl⟩ := h.out
  exact pw_below_drewN (Below.refl _ _) n
theorem big_ofT {l : List ByteArray} (h : okL 16 okS l) : l.length ≤ 140737488351232 ∧ ∀ s ∈ l, s.size ≤ 140737488351232 := by
  have e : reachBytes = 140737488351232 := rfl
  refine ⟨by have := h.1; rw [e] at this; omega, fun s hs => ?_⟩
  have := h.2 s hs
  unfold okS at this
  rw [e] at this
  exact this
theorem heldS_calls (A : Option Addr) (c : Nat) (l : List S81) (w : World) (hr : Kd.C k81 w A l.length (markS 1 l)) (hc : l.length ≤ c) (h1 : 1 + mkN l ≤ 4611686018427387000) (hl : l.length ≤ 4611686018427387000) :
    Calls Try.prog 26 #[.slice A l.length c, .int .i64 1] w fun e w' => e = .returned (.int .i64 (1 + mkN l)) ∧ Below w.heap.size w w' := by
  obtain ⟨k, hk⟩ := rounds_of (heldSeriesS_ev l 1 (by decide) h1 (by omega))
  have := laws_heldSeriesS.calls k A c (markS 1 l) 1 (1 + mkN l) w (by rw [markS_len]; exact hr) (by rw [markS_len]; exact hc) hk
  rw [markS_len] at this
  exact this
theorem wL_mem2 {l : List S137} {s : S137} (h : s ∈ l) : (s.f2.length : Int) ≤ wL l := by
  have := wL_mem h
  unfold wS at this
  omega
theorem mkN_toS : ∀ l : List S137, mkN (l.map toS) ≤ 2 * l.length + 2 * wL l
  | [] => by simp [mkN, wL]
  | s :: r => by
    have := mkN_toS r
    simp only [List.map_cons, mkN, wL, wS, List.length_cons, toS, List.length_map]
    omega
theorem big_ofS {l : List S137} (h : okL 56 ok137 l) : l.length ≤ 140737488351232 ∧ ∀ s ∈ l, bigS s := by
  have e : reachBytes = 140737488351232 := rfl
  refine ⟨by have := h.1; rw [e] at this; omega, fun s hs => ?_⟩
  obtain ⟨h1, h2, h3, _⟩ := h.2 s hs
  unfold okS at h1 h2
  rw [e] at h1 h2 h3
  exact ⟨h1, h2, by omega⟩
end Go.Proofs.Ytplekidnlofioaa.Q
namespace Go.Proofs.Ytplekidnlofioaa.Q
open Go.RowKit Go.Proofs.YtplekidnlofioaaW.PrintWords Go.Proofs.YtplekidnlofioaaW.PrintLast Go.Proofs.YtplekidnlofioaaW.PrintMore
attribute [local go_sem] max2_int min2_int max_two min_two max_three min_three max_four min_four
set_option linter.unusedVariables false
set_option linter.unusedSimpArgs false
def SpS (w : World) (gb : Nat) (cb : Array Value) (u : Value) (l : List S81) (W : World) : Prop :=
  W.heap[gb]? = some (.cells cb 30 (0, 0)) ∧ Kd.S kq 81 W w.heap.size (fun k => w.heap.size ≤ k) u l ∧ Below w.heap.size w W
theorem spS_below {w : World} {gb : Nat} {cb : Array Value} {u : Value} {l : List S81} {W W' : World} (h : SpS w gb cb u l W) (hb : Below W.heap.size W W') : SpS w gb cb u l W' :=
  ⟨blk_below h.1 hb, Kd.S_below h.2.1 hb, below_step h.2.2 hb⟩
/-- What is answered: a store that is only read, in blocks of the call's own, and a code. -/
def SpR (w : World) (r : List S81 × Int) (e : Ending) (w' : World) : Prop :=
  ∃ A c, e = .returned (.tuple #[.slice A r.1.length c, .int .i64 r.2]) ∧ r.1.length ≤ c ∧ Kd.F k81 w' (fun k => w.heap.size ≤ k) A r.1.length r.1 ∧ Below w.heap.size w w'
section
variable {w w' W : World} {l : List S81} {A : Option Addr} {n c : Nat} {code : Int} {gb : Nat} {cb : Array Value}
theorem spQ_ret (h : Kd.S kq 81 w' w.heap.size (fun k => w.heap.size ≤ k) (.slice A n c) l) (hb : Below w.heap.size w w') (hn : l.length = n) : SpR w (l, code) (.returned (.tuple #[.slice A n c, .int .i64 code])) w' := by
  subst hn
  exact ⟨A, c, rfl, (Kd.S_reads' h).2.1, kq_F (Kd.S_F h), hb⟩
theorem spS_ret (h : SpS w gb cb (.slice A l.length c) l w') : SpR w (l, code) (.returned (.tuple #[.slice A l.length c, .int .i64 code])) w' := spQ_ret h.2.1 h.2.2 rfl
theorem spN_ret {wE : World} (hE : Below w.heap.size w wE) (hb : Below wE.heap.size wE w') (h : Kd.N k81 81 w' wE.heap.size (fun k => w.heap.size ≤ k) (.slice A l.length c) l) : SpR w (l, code) (.returned (.tuple #[.slice A l.length c, .int .i64 code])) w' :=
  ⟨A, c, rfl, (Kd.N_reads' h).2.1, Kd.N_F h, below_step hE hb⟩
theorem N_empty {g base : Nat} {ok : Nat → Prop} (h1 : base ≤ g) (h2 : ok g) (h : W.heap[g]? = some (.cells #[] 81 (0, 0))) : Kd.N k81 81 W base ok (.slice (some ⟨g, 0, none⟩) 0 0) [] := by
  refine ⟨fun k hk => ?_, [], rfl, raw_in (X := []) (by simp [Value.ownBlock]) h1 h rfl (Nat.le_refl _) (by unfold maxLen; omega) rfl rfl (fun x hx => by cases hx), fun j x c hx => by cases hx⟩
  have : g = k := by simpa [Value.ownBlock] using hk
  exact this ▸ h2
end
def spec_PutSample_h.T8 : Bool × List (List Nat × List Nat) := (true, [([], []), ([], []), ([1], [1]), ([2], [2]), ([0, 3], [0, 3]), ([4], [4]), ([5], [5]), ([], []), ([7], [7]), ([6, 8], [6, 8])])
def spec_PutSample_h.B8 : List Nat := [0, 0, 2, 6, 15, 31, 63, 0, 128, 511]
theorem spec_PutSample_h.tab8 : rtab .any (opsOf Try.f43 8) = spec_PutSample_h.T8 := by kernel_rfl
theorem spec_PutSample_h.bits8 : waitsOk spec_PutSample_h.T8.2 spec_PutSample_h.B8 = true := by kernel_rfl
def spec_PutSample_h.T23 : Bool × List (List Nat × List Nat) := (true, [([], []), ([0], [0]), ([1], [1]), ([2], [2]), ([3, 2], [2, 3]), ([2], [2]), ([5, 2], [2, 5]), ([2], [2]), ([2], [2]), ([7, 8, 2], [2, 7, 8]), ([9, 2], [2, 9]), ([10, 2], [2, 10]), ([2], [2]), ([2], [2]), ([12, 13, 2], [2, 12, 13]), ([14, 2], [2, 14]), ([15, 2], [2, 15]), ([4, 6, 11, 16, 2, 2], [2, 4, 6, 11, 16]), ([2, 17], [2, 17])])
def spec_PutSample_h.B23 : List Nat := [0, 1, 3, 7, 15, 7, 39, 7, 7, 391, 903, 1927, 7, 7, 12295, 28679, 61447, 131071, 262143]
theorem spec_PutSample_h.tab23 : rtab .any (opsOf Try.f43 23) = spec_PutSample_h.T23 := by kernel_rfl
theorem spec_PutSample_h.bits23 : waitsOk spec_PutSample_h.T23.2 spec_PutSample_h.B23 = true := by kernel_rfl
set_option maxHeartbeats 16000000 in
set_option maxRecDepth 100000 in
theorem spec_PutSample_calls (A0 : Option Addr) (c0 : Nat) (l : List S81) (a b : ByteArray) (vl at_ : Int) (w : World) (hr : Kd.C k81 w A0 l.length l) (hc : l.length ≤ c0) (hl : l.length ≤ 1048576) (hf : ∀ s ∈ l, s.f2.length ≤ 1048576) (hfit : ∀ s ∈ l, fitS s) (ha : a.size < 4611686018427387904) (hb : b.size < 4611686018427387904) :
    Calls Try.prog 43 #[.slice A0 l.length c0, .agg #[.string a, .string b, .int .i64 vl, .int .i64 at_]] w fun e w' => SpR w (putV l a b vl at_) e w' := by
  obtain ⟨k0, hk0⟩ := rounds_of (spec_l03Copy_ev l hl hf)
  obtain ⟨k1, hk1⟩ := rounds_of (spec_StoreOk_ev l (by omega) hfit)
  obtain ⟨k2, hk2⟩ := rounds_of (spec_SampleOk_ev a b vl at_)
  obtain ⟨x8, h8, hx8⟩ := spec_l03At_l0_ev l (by omega) a b l [] rfl
  obtain ⟨k3, hk3⟩ := rounds_of (show Ev (fun k => spec_l03At.f k l a b) x8 from h8)
  have K0 := ak hk0
  have K3 := ak hk3
  have HR := ak hr
  have HC := ak hc
  have HL := ak hl
  have HFT := ak hfit
  have HAB := ak (And.intro ha hb)
  clear hk0 hk3 h8 hc hl hf hfit ha hb
  cases hs : storeOk l with
  | false =>
    rw [hs] at hk1
    have K1 := ak hk1
    rw [putV_bad (by rw [hs]; rfl)]
    clear hk1 hk2 hs hx8 hr
    go_enter Try.func43, Try.ntmps43
    go_wp2_with (first | ((with_reducible refine gate_dst (N := 3) rfl ?_); refine bx 3 #[.string a, .string b, .int .i64 vl, .int .i64 at_] 30 ?_; intro gb hg w1 hbox hb; have BK := ak hbox; have HB := ak hb; clear hb hbox hg) | ((with_reducible refine gate_dst (N := 16) rfl ?_); refine gl (some 16) Try.func79 #[.slice A0 l.length c0] ?_; (refine (spec_l03Copy.calls _ _ _ l l _ ?sa HC.out K0.out).mono ?_); (case sa => exact Kd.C_below HR.out HB.out); rintro e w2 ⟨v6, rfl, ho, hb⟩; refine ⟨_, rfl, ?_⟩; have ST := ak (show SpS w gb #[.string a, .string b, .int .i64 vl, .int .i64 at_] v6 l w2 from ⟨blk_below BK.out hb, kq_S (Kd.S_lower (Kd.S_mono (Kd.S_bound ho) (fun k hk => Nat.le_trans HB.out.size hk.2.1)) HB.out.size), below_step HB.out hb⟩); obtain ⟨A6, c6, e6⟩ := Kd.S_slice ho; subst e6; clear hb ho HB BK) | ((with_reducible refine gate_dst (N := 18) rfl ?_); refine gl (some 18) Try.func16 #[.slice A0 l.length c0] ?_; (refine (spec_StoreOk.calls _ _ _ l _ _ ?sb HC.out K1.out).mono ?_); (case sb => exact Kd.C_below HR.out ST.out.2.2); rintro e w3 ⟨rfl, hb⟩; refine ⟨_, rfl, ?_⟩; replace ST := ak (spS_below ST.out hb); clear hb; have BK := ak ST.out.1; obtain ⟨hcz_0, hcz_1, hcz_2, hcz_3, hfz_0, hfz_1, hfz_2, hfz_3⟩ := cz4 BK))
    go_ret2
    exact spS_ret ST.out
  | true =>
    rw [hs] at hk1
    have K1 := ak hk1
    cases hm : smpOk a b vl at_ with
    | false =>
      rw [hm] at hk2
      have K2 := ak hk2
      rw [putV_bad (by rw [hs, hm]; rfl)]
      clear hk1 hk2 hs hm hx8 hr
      go_enter Try.func43, Try.ntmps43
      go_wp2_with (first | ((with_reducible refine gate_dst (N := 3) rfl ?_); refine bx 3 #[.string a, .string b, .int .i64 vl, .int .i64 at_] 30 ?_; intro gb hg w1 hbox hb; have BK := ak hbox; have HB := ak hb; clear hb hbox hg) | ((with_reducible refine gate_dst (N := 16) rfl ?_); refine gl (some 16) Try.func79 #[.slice A0 l.length c0] ?_; (refine (spec_l03Copy.calls _ _ _ l l _ ?sa HC.out K0.out).mono ?_); (case sa => exact Kd.C_below HR.out HB.out); rintro e w2 ⟨v6, rfl, ho, hb⟩; refine ⟨_, rfl, ?_⟩; have ST := ak (show SpS w gb #[.string a, .string b, .int .i64 vl, .int .i64 at_] v6 l w2 from ⟨blk_below BK.out hb, kq_S (Kd.S_lower (Kd.S_mono (Kd.S_bound ho) (fun k hk => Nat.le_trans HB.out.size hk.2.1)) HB.out.size), below_step HB.out hb⟩); obtain ⟨A6, c6, e6⟩ := Kd.S_slice ho; subst e6; clear hb ho HB BK) | ((with_reducible refine gate_dst (N := 18) rfl ?_); refine gl (some 18) Try.func16 #[.slice A0 l.length c0] ?_; (refine (spec_StoreOk.calls _ _ _ l _ _ ?sb HC.out K1.out).mono ?_); (case sb => exact Kd.C_below HR.out ST.out.2.2); rintro e w3 ⟨rfl, hb⟩; refine ⟨_, rfl, ?_⟩; replace ST := ak (spS_below ST.out hb); clear hb; have BK := ak ST.out.1; obtain ⟨hcz_0, hcz_1, hcz_2, hcz_3, hfz_0, hfz_1, hfz_2, hfz_3⟩ := cz4 BK) | (go_at_call 92; (refine (spec_SampleOk.calls _ _ _ _ _ _ _ K2.out).mono ?_); rintro e w4 ⟨rfl, hb⟩; replace ST := ak (spS_below ST.out hb); clear hb hcz_0 hcz_1 hcz_2 hcz_3 hfz_0 hfz_1 hfz_2 hfz_3 BK; have BK := ak ST.out.1; obtain ⟨hcz_0, hcz_1, hcz_2, hcz_3, hfz_0, hfz_1, hfz_2, hfz_3⟩ := cz4 BK))
      go_ret2
      exact spS_ret ST.out
    | true =>
      rw [hm] at hk2
      have K2 := ak hk2
      have OK := ak (show (storeOk l && smpOk a b vl at_) = true from by rw [hs, hm]; rfl)
      have SOK := ak (storeOk_all hs)
      clear hk1 hk2 hs hm
      rcases hx8 with ⟨hm1, hfd⟩ | ⟨j, s, hj, hs, hfd⟩
      · subst hm1
        clear hr
        by_cases hf24 : l.length = 24
        · have hf1 : ((l.length : Int) == 24) = true := beq_iff_eq.2 (by omega)
          have hf2 : (l.length : Int) = 24 := by omega
          rw [putV_s_full OK.out hfd hf24]
          clear hf24 hfd
          go_enter Try.func43, Try.ntmps43
          go_wp2_with (first | ((with_reducible refine gate_dst (N := 3) rfl ?_); refine bx 3 #[.string a, .string b, .int .i64 vl, .int .i64 at_] 30 ?_; intro gb hg w1 hbox hb; have BK := ak hbox; have HB := ak hb; clear hb hbox hg) | ((with_reducible refine gate_dst (N := 16) rfl ?_); refine gl (some 16) Try.func79 #[.slice A0 l.length c0] ?_; (refine (spec_l03Copy.calls _ _ _ l l _ ?sa HC.out K0.out).mono ?_); (case sa => exact Kd.C_below HR.out HB.out); rintro e w2 ⟨v6, rfl, ho, hb⟩; refine ⟨_, rfl, ?_⟩; have ST := ak (show SpS w gb #[.string a, .string b, .int .i64 vl, .int .i64 at_] v6 l w2 from ⟨blk_below BK.out hb, kq_S (Kd.S_lower (Kd.S_mono (Kd.S_bound ho) (fun k hk => Nat.le_trans HB.out.size hk.2.1)) HB.out.size), below_step HB.out hb⟩); obtain ⟨A6, c6, e6⟩ := Kd.S_slice ho; subst e6; clear hb ho HB BK) | ((with_reducible refine gate_dst (N := 18) rfl ?_); refine gl (some 18) Try.func16 #[.slice A0 l.length c0] ?_; (refine (spec_StoreOk.calls _ _ _ l _ _ ?sb HC.out K1.out).mono ?_); (case sb => exact Kd.C_below HR.out ST.out.2.2); rintro e w3 ⟨rfl, hb⟩; refine ⟨_, rfl, ?_⟩; replace ST := ak (spS_below ST.out hb); clear hb; have BK := ak ST.out.1; obtain ⟨hcz_0, hcz_1, hcz_2, hcz_3, hfz_0, hfz_1, hfz_2, hfz_3⟩ := cz4 BK) | (go_at_call 92; (refine (spec_SampleOk.calls _ _ _ _ _ _ _ K2.out).mono ?_); rintro e w4 ⟨rfl, hb⟩; replace ST := ak (spS_below ST.out hb); clear hb hcz_0 hcz_1 hcz_2 hcz_3 hfz_0 hfz_1 hfz_2 hfz_3 BK; have BK := ak ST.out.1; obtain ⟨hcz_0, hcz_1, hcz_2, hcz_3, hfz_0, hfz_1, hfz_2, hfz_3⟩ := cz4 BK) | ((with_reducible refine gate_dst (N := 7) rfl ?_); refine bx 7 #[.int .i64 0, .int .i64 0] 37 ?_; intro gp hg wp hbox hb; have BP := ak hbox; have GP := ak (show w4.heap.size ≤ gp from by rw [hg]; exact Nat.le_refl _); have HW := ak hb; clear hb hbox hg; obtain ⟨hcp_0, hcp_1, hfp_0, hfp_1⟩ := cz2 BP) | ((with_reducible refine gate_store (t := 37) (p := 7) rfl ?_); refine store_event (t := 37) (p := 7) (v := ?vo_p) (w1 := ((wp.setCell ⟨gp, 0, none⟩ (.int .i64 at_)).setCell ⟨gp, 1, none⟩ (.int .i64 vl))) ?hg ?ho ?hn ?hr ?_; (case ho => rfl); (case hg => rfl); (case hn => rfl); (case hr => first | (go_simp; done) | (go_simp; rfl)); intro wq hw; have hb : Below w4.heap.size w4 wq := (by rw [hw]; exact below_set (below_set HW.out GP.out) GP.out); replace ST := ak (spS_below ST.out hb); have BQ := ak (show wq.heap[gp]? = some (.cells #[.int .i64 at_, .int .i64 vl] 37 (0, 0)) from by rw [hw]; exact blk_put (cs := #[.int .i64 at_, .int .i64 0]) (blk_put (cs := #[.int .i64 0, .int .i64 0]) BP.out 0 _ rfl) 1 _ rfl); clear hb hw hcp_0 hcp_1 hfp_0 hfp_1 BP GP HW BK hcz_0 hcz_1 hcz_2 hcz_3 hfz_0 hfz_1 hfz_2 hfz_3; have BK := ak ST.out.1; obtain ⟨hcz_0, hcz_1, hcz_2, hcz_3, hfz_0, hfz_1, hfz_2, hfz_3⟩ := cz4 BK) | ((with_reducible refine gate_dst (N := 36) rfl ?_); refine gl (some 36) Try.func93 #[.slice A0 l.length c0, .string a, .string b] ?_; (refine (spec_l03At.calls _ _ _ l a b (-1) _ ?sc HC.out K3.out).mono ?_); (case sc => exact Kd.C_below HR.out ST.out.2.2); rintro e w5 ⟨rfl, hd⟩; refine ⟨_, rfl, ?_⟩; have hb := drawn_below hd; replace ST := ak (spS_below ST.out hb); replace BQ := ak (blk_below BQ.out hb); clear hd hb hcz_0 hcz_1 hcz_2 hcz_3 hfz_0 hfz_1 hfz_2 hfz_3 BK; have BK := ak ST.out.1; obtain ⟨hcz_0, hcz_1, hcz_2, hcz_3, hfz_0, hfz_1, hfz_2, hfz_3⟩ := cz4 BK))
          go_ret2
          exact spS_ret ST.out
        · have hf1 : ((l.length : Int) == 24) = false := beq_eq_false_iff_ne.2 (by omega)
          have hf2 : ¬ ((l.length : Int) = 24) := by omega
          rw [putV_s_ins OK.out hfd hf24]
          clear hf24 hfd
          obtain ⟨one, hone⟩ : ∃ one : S81, one = ⟨a, b, [⟨at_, vl⟩]⟩ := ⟨_, rfl⟩
          rw [← hone]
          have ONE := ak hone
          clear hone
          go_enter Try.func43, Try.ntmps43
          go_wp2_with (first | ((with_reducible refine gate_dst (N := 3) rfl ?_); refine bx 3 #[.string a, .string b, .int .i64 vl, .int .i64 at_] 30 ?_; intro gb hg w1 hbox hb; have BK := ak hbox; have HB := ak hb; clear hb hbox hg) | ((with_reducible refine gate_dst (N := 16) rfl ?_); refine gl (some 16) Try.func79 #[.slice A0 l.length c0] ?_; (refine (spec_l03Copy.calls _ _ _ l l _ ?sa HC.out K0.out).mono ?_); (case sa => exact Kd.C_below HR.out HB.out); rintro e w2 ⟨v6, rfl, ho, hb⟩; refine ⟨_, rfl, ?_⟩; have ST := ak (show SpS w gb #[.string a, .string b, .int .i64 vl, .int .i64 at_] v6 l w2 from ⟨blk_below BK.out hb, kq_S (Kd.S_lower (Kd.S_mono (Kd.S_bound ho) (fun k hk => Nat.le_trans HB.out.size hk.2.1)) HB.out.size), below_step HB.out hb⟩); obtain ⟨A6, c6, e6⟩ := Kd.S_slice ho; subst e6; clear hb ho HB BK) | ((with_reducible refine gate_dst (N := 18) rfl ?_); refine gl (some 18) Try.func16 #[.slice A0 l.length c0] ?_; (refine (spec_StoreOk.calls _ _ _ l _ _ ?sb HC.out K1.out).mono ?_); (case sb => exact Kd.C_below HR.out ST.out.2.2); rintro e w3 ⟨rfl, hb⟩; refine ⟨_, rfl, ?_⟩; replace ST := ak (spS_below ST.out hb); clear hb; have BK := ak ST.out.1; obtain ⟨hcz_0, hcz_1, hcz_2, hcz_3, hfz_0, hfz_1, hfz_2, hfz_3⟩ := cz4 BK) | (go_at_call 92; (refine (spec_SampleOk.calls _ _ _ _ _ _ _ K2.out).mono ?_); rintro e w4 ⟨rfl, hb⟩; replace ST := ak (spS_below ST.out hb); clear hb hcz_0 hcz_1 hcz_2 hcz_3 hfz_0 hfz_1 hfz_2 hfz_3 BK; have BK := ak ST.out.1; obtain ⟨hcz_0, hcz_1, hcz_2, hcz_3, hfz_0, hfz_1, hfz_2, hfz_3⟩ := cz4 BK) | ((with_reducible refine gate_dst (N := 7) rfl ?_); refine bx 7 #[.int .i64 0, .int .i64 0] 37 ?_; intro gp hg wp hbox hb; have BP := ak hbox; have GP := ak (show w4.heap.size ≤ gp from by rw [hg]; exact Nat.le_refl _); have HW := ak hb; clear hb hbox hg; obtain ⟨hcp_0, hcp_1, hfp_0, hfp_1⟩ := cz2 BP) | ((with_reducible refine gate_store (t := 37) (p := 7) rfl ?_); refine store_event (t := 37) (p := 7) (v := ?vo_p) (w1 := ((wp.setCell ⟨gp, 0, none⟩ (.int .i64 at_)).setCell ⟨gp, 1, none⟩ (.int .i64 vl))) ?hg ?ho ?hn ?hr ?_; (case ho => rfl); (case hg => rfl); (case hn => rfl); (case hr => first | (go_simp; done) | (go_simp; rfl)); intro wq hw; have hb : Below w4.heap.size w4 wq := (by rw [hw]; exact below_set (below_set HW.out GP.out) GP.out); replace ST := ak (spS_below ST.out hb); have BQ := ak (show wq.heap[gp]? = some (.cells #[.int .i64 at_, .int .i64 vl] 37 (0, 0)) from by rw [hw]; exact blk_put (cs := #[.int .i64 at_, .int .i64 0]) (blk_put (cs := #[.int .i64 0, .int .i64 0]) BP.out 0 _ rfl) 1 _ rfl); clear hb hw hcp_0 hcp_1 hfp_0 hfp_1 BP GP HW BK hcz_0 hcz_1 hcz_2 hcz_3 hfz_0 hfz_1 hfz_2 hfz_3; have BK := ak ST.out.1; obtain ⟨hcz_0, hcz_1, hcz_2, hcz_3, hfz_0, hfz_1, hfz_2, hfz_3⟩ := cz4 BK) | ((with_reducible refine gate_dst (N := 36) rfl ?_); refine gl (some 36) Try.func93 #[.slice A0 l.length c0, .string a, .string b] ?_; (refine (spec_l03At.calls _ _ _ l a b (-1) _ ?sc HC.out K3.out).mono ?_); (case sc => exact Kd.C_below HR.out ST.out.2.2); rintro e w5 ⟨rfl, hd⟩; refine ⟨_, rfl, ?_⟩; have hb := drawn_below hd; replace ST := ak (spS_below ST.out hb); replace BQ := ak (blk_below BQ.out hb); clear hd hb hcz_0 hcz_1 hcz_2 hcz_3 hfz_0 hfz_1 hfz_2 hfz_3 BK; have BK := ak ST.out.1; obtain ⟨hcz_0, hcz_1, hcz_2, hcz_3, hfz_0, hfz_1, hfz_2, hfz_3⟩ := cz4 BK; have SZ5 := ak ST.out.2.2.size; obtain ⟨hcq_0, hcq_1, hfq_0, hfq_1⟩ := cz2 BQ) | ((with_reducible refine gate_dst (N := 80) rfl ?_); refine bsl 80 #[.int .i64 at_, .int .i64 vl] 37 1 ?_; intro gq hg wx hbox hb; have BG := ak hbox; have GQ := ak (show w5.heap.size ≤ gq from by rw [hg]; exact Nat.le_refl _); have HX := ak hb; clear hb hbox hg) | ((with_reducible refine gate_dst (N := 11) rfl ?_); refine bx 11 #[.string ⟨#[]⟩, .string ⟨#[]⟩, .slice none 0 0] 81 ?_; intro g11 hg wy hbox hb; have BY := ak hbox; have GY := ak (show wx.heap.size ≤ g11 from by rw [hg]; exact Nat.le_refl _); have HY := ak hb; clear hb hbox hg; obtain ⟨hcy_0, hcy_1, hcy_2, hfy_0, hfy_1, hfy_2⟩ := cz3 BY) | ((with_reducible refine gate_store (t := 81) (p := 11) rfl ?_); refine store_event (t := 81) (p := 11) (v := ?vo_q) (w1 := (((wy.setCell ⟨g11, 0, none⟩ (.string a)).setCell ⟨g11, 1, none⟩ (.string b)).setCell ⟨g11, 2, none⟩ (.slice (some ⟨gq, 0, none⟩) 1 1))) ?hg ?ho ?hn ?hr ?_; (case ho => rfl); (case hg => rfl); (case hn => rfl); (case hr => first | (go_simp; done) | (go_simp; rfl)); intro wE hw; have hb : Below wx.heap.size wx wE := (by rw [hw]; exact below_set (below_set (below_set HY.out GY.out) GY.out) GY.out); have BO := ak (show wE.heap[g11]? = some (.cells #[.string a, .string b, .slice (some ⟨gq, 0, none⟩) 1 1] 81 (0, 0)) from by rw [hw]; exact blk_put (cs := #[.string a, .string b, .slice none 0 0]) (blk_put (cs := #[.string a, .string ⟨#[]⟩, .slice none 0 0]) (blk_put (cs := #[.string ⟨#[]⟩, .string ⟨#[]⟩, .slice none 0 0]) BY.out 0 _ rfl) 1 _ rfl) 2 _ rfl); replace BG := ak (blk_below BG.out hb); replace ST := ak (spS_below ST.out (below_step HX.out hb)); have SO := ak (show Kd.S kq 81 wE w.heap.size (fun k => w.heap.size ≤ k ∧ k < wE.heap.size) (.slice A6 l.length c6) l from Kd.S_mono (Kd.S_bound ST.out.2.1) (fun k hk => ⟨hk.1, hk.2.2.1⟩)); have EO := ak (show Kd.FK k81 wE (fun k => w.heap.size ≤ k ∧ k < wE.heap.size) one [.string a, .string b, .slice (some ⟨gq, 0, none⟩) 1 1] from by rw [ONE.out]; exact fun W' hW => kq_K (Kd.FK_of_M (kq_mkM wE w.heap.size (fun k => w.heap.size ≤ k ∧ k < wE.heap.size) ⟨a, b, [⟨at_, vl⟩]⟩ (Kd.Q_of_R (Kd.R_mono (pt_one BG.out (Nat.le_trans (Nat.le_trans SZ5.out GQ.out) (Nat.le_refl _))) (fun k hk => by subst hk; exact ⟨Nat.le_trans SZ5.out GQ.out, blk_lt BG.out⟩)))) W' hW)); clear hb hw hcq_0 hcq_1 hfq_0 hfq_1 hcy_0 hcy_1 hcy_2 hfy_0 hfy_1 hfy_2 BY GY HY HX BK hcz_0 hcz_1 hcz_2 hcz_3 hfz_0 hfz_1 hfz_2 hfz_3; have BK := ak ST.out.1; have HBE := ak (Below.refl wE.heap.size wE); have NG6 := ak (show ∀ k, wE.heap.size ≤ k → w.heap.size ≤ k from fun k hk => Nat.le_trans ST.out.2.2.size hk); have EB0 := ak (bc BK 0); have EB1 := ak (bc BK 1); have EO0 := ak (bc BO 0); have EO1 := ak (bc BO 1); have EO2 := ak (bc BO 2)) | ((with_reducible refine gate_dst (N := 82) rfl ?_); refine bsl 82 #[] 81 0 ?_; intro gm hg wm hbox hb; have HN := ak (show Kd.N k81 81 wm wE.heap.size (fun k => w.heap.size ≤ k) (.slice (some ⟨gm, 0, none⟩) 0 0) [] from N_empty (by rw [hg]; exact Nat.le_refl _) (NG6.out gm (by rw [hg]; exact Nat.le_refl _)) hbox); replace HBE := ak hb; clear hb hbox hg))
          go_loopg [12, 13, 14] l.length (fun kn v12 v13 v14 w' => ∃ (pre suf dn : List S81) (x14 : Int) (pb : Bool), v13 = .bool pb ∧ v14 = .int .i64 x14 ∧ Aside0 (l = pre ++ suf ∧ x14 = (pre.length : Int) ∧ suf.length ≤ kn ∧ dn.length ≤ pre.length + 1 ∧ (pb = true → insB a b one l = dn ++ suf) ∧ (pb = false → dn = pre ∧ insB a b one l = pre ++ insB a b one suf)) ∧ Aside0 (Below wE.heap.size wE w') ∧ Aside0 (Kd.N k81 81 w' wE.heap.size (fun k => w.heap.size ≤ k) v12 dn))
          case atStart => exact ⟨[], l, [], 0, false, rfl, rfl, ⟨rfl, rfl, Nat.le_refl _, by simp, (fun h => by cases h), fun _ => ⟨rfl, rfl⟩⟩, ⟨HBE.out⟩, ⟨HN.out⟩⟩
          case round =>
            clear HBE HN
            obtain ⟨pre, suf, dn, x14, pb, rfl, rfl, HA, HBE, HN⟩ := hrel
            obtain ⟨A12, c12, e12⟩ := Kd.N_slice HN.out
            subst e12
            have hlen : l.length = pre.length + suf.length := by rw [HA.out.1, List.length_append]
            have DN := ak (show dn.length ≤ 1048577 from by have := HA.out.2.2.2.1; have := HL.out; omega)
            cases suf with
            | nil =>
              have c1 : decide (x14 < (l.length : Int)) = false := decide_eq_false (by rw [HA.out.2.1, hlen]; simp)
              clear hlen
              cases pb with
              | true =>
                have HI := ak (show insB a b one l = dn from by rw [HA.out.2.2.2.2.1 rfl, List.append_nil])
                go_wp2
                rw [HI.out]
                go_ret2
                exact spN_ret ST.out.2.2 HBE.out HN.out
              | false =>
                have HI := ak (show insB a b one l = dn ++ [one] from by rw [(HA.out.2.2.2.2.2 rfl).2, (HA.out.2.2.2.2.2 rfl).1]; rfl)
                have ho0 := cw EO0.out HBE.out
                have ho1 := cw EO1.out HBE.out
                have ho2 := cw EO2.out HBE.out
                go_wp2_with (first | ((with_reducible refine gate_builtin (b := .append) (xs := #[.tmp 121, .tmp 123]) rfl ?_); at_builtin; refine Kd.N_append k81 (w0 := wE) wE.heap.size rfl (.tmp 121) (.tmp 123) 24 81 (.agg #[(.string ⟨#[]⟩), (.string ⟨#[]⟩), (.slice none 0 0)]) 56 rfl Try.underlying24 info81 rfl (by decide) (by omega) _ dn one [.string a, .string b, .slice (some ⟨gq, 0, none⟩) 1 1] (fun k => w.heap.size ≤ k) (fun k => w.heap.size ≤ k ∧ k < wE.heap.size) rfl rfl ?aP ?aK ?aF ?aO ?aB ?aS ?aL ?_; (case aP => exact Kd.FK_below EO.out HBE.out); (case aK => exact fun k hk => ⟨hk.1, fun e => by have := Kd.N_base HN.out k e.symm; have := hk.2; omega⟩); (case aF => exact fun k hk => NG6.out k (Nat.le_trans HBE.out.size hk)); (case aO => exact HN.out); (case aB => exact HBE.out); (case aS => exact HBE.out.size); (case aL => have := DN.out; omega); intro m1 m1w hN1 hb1 hg1 hat1; obtain ⟨d_m1, hd_m1⟩ : ∃ d, d = dn ++ [one] := ⟨_, rfl⟩; rw [← hd_m1] at hN1; have Em1 := ak hd_m1; replace HN := ak hN1; replace HBE := ak hb1; clear hN1 hb1 hg1 hat1 hd_m1; obtain ⟨Am1, cm1, em1⟩ := Kd.N_slice HN.out; subst em1))
                rw [HI.out, ← Em1.out]
                go_ret2
                exact spN_ret ST.out.2.2 HBE.out HN.out
            | cons s suf =>
              obtain ⟨g, cap, eo, gb_, gl_, cl, HG⟩ := Kd.S_form SO.out (by rw [hlen, List.length_cons]; omega)
              injection eo with e1_ _ e3_
              subst e1_ e3_
              rw [List.length_cons] at hlen
              have pz : 0 ≤ x14 := by rw [HA.out.2.1]; omega
              have qz : x14 < (l.length : Int) := by rw [HA.out.2.1]; omega
              have hget : l.getD x14.toNat z81 = s := by rw [show x14.toNat = pre.length from by rw [HA.out.2.1]; omega, HA.out.1]; exact getD_mid _ _ _ _
              have c1 : decide (x14 < (l.length : Int)) = true := decide_eq_true qz
              obtain ⟨x15, hx15⟩ : ∃ y, y = x14 + 1 := ⟨_, rfl⟩
              have w1415 : IntKind.i64.wrap (x14 + 1) = x15 := (i64_w _).trans (by have := HL.out; rw [hx15]; unfold wrap64; omega)
              have X15 := ak (show x15 = ((pre ++ [s]).length : Int) ∧ l = (pre ++ [s]) ++ suf from ⟨by rw [List.length_append, List.length_singleton, hx15, HA.out.2.1]; omega, by rw [HA.out.1]; simp⟩)
              obtain ⟨oki, c_, hcl, hM, hcc, hfr, hoki, hH⟩ := Kd.S_elem SO.out z81 x14 pz qz
              rw [hget] at hM
              obtain ⟨v2, rfl, hQ⟩ := kq_openM hM
              obtain ⟨A2, c2, ev, hQl, hQC⟩ := Kd.Q_reads hQ
              subst ev
              have EC0 := ak (show wE.cell? ⟨g, x14.toNat * 3, none⟩ = some (.string s.f0) from hcc 0 _ rfl)
              have EC1 := ak (show wE.cell? ⟨g, x14.toNat * 3 + 1, none⟩ = some (.string s.f1) from hcc 1 _ rfl)
              have EC2 := ak (show wE.cell? ⟨g, x14.toNat * 3 + 2, none⟩ = some (.slice A2 s.f2.length c2) from hcc 2 _ rfl)
              have ES := ak (show Kd.FK k81 wE (fun k => w.heap.size ≤ k ∧ k < wE.heap.size) s [.string s.f0, .string s.f1, .slice A2 s.f2.length c2] from fun W' hW => kq_K (Kd.FK_mono (Kd.FK_of_M hM) (fun k hk => (hoki k hk).1) W' hW))
              replace pz := eq_true pz
              replace qz := eq_true qz
              clear gb_ gl_ cl HG hget hx15 hcl hM hcc hfr hoki hH hQ hQl hQC hlen
              cases pb with
              | true =>
                have HI := ak (HA.out.2.2.2.2.1 rfl)
                have HD := ak (show dn.length ≤ pre.length + 1 from HA.out.2.2.2.1)
                go_wp2
                replace HBE := ak (below_drew HBE.out)
                replace HN := ak (Kd.N_drew HN.out)
                refine start_ (n := 19) (S := fun w' => True) (ds := []) (bitsA 19 0) (by kernel_rfl) rfl rfl trivial (fun hHeld => ?_)
                refine with_tabW spec_PutSample_h.tab23 spec_PutSample_h.bits23 (fun HT_ HW_ => ?_)
                generalize wr.drew = wd1 at HBE HN hHeld ⊢
                refine pu 0 (some 89) (bitsA 19 1) ?_
                refine pu 1 (some 90) (bitsA 19 3) ?_
                refine pu 2 (some 91) (bitsA 19 7) ?_
                refine pure_ (i := 3) (N := some 92) (v := undef) (a' := ?_) (bitsA 19 15) rfl rfl (any_of HT_.out (by kernel_rfl)) (fun _ _ _ h => h) (Or.inr ⟨by rfl, rfl⟩) ?_ ?_; rotate_left; (· (simp only [Act.put, List.setIfInBounds_toArray, List.set_cons_zero, List.set_cons_succ, i64_w, i32_w]; rfl))
                refine pure_ (i := 4) (N := some 93) (v := undef) (a' := ?_) (bitsA 19 31) rfl rfl (any_of HT_.out (by kernel_rfl)) (fun _ _ _ h => h) (Or.inr ⟨by rfl, rfl⟩) ?_ ?_; rotate_left; (· (simp only [Act.put, List.setIfInBounds_toArray, List.set_cons_zero, List.set_cons_succ, i64_w, i32_w]; rfl))
                refine pure_ (i := 5) (N := some 94) (v := undef) (a' := ?_) (bitsA 19 63) rfl rfl (any_of HT_.out (by kernel_rfl)) (fun _ _ _ h => h) (Or.inr ⟨by rfl, rfl⟩) ?_ ?_; rotate_left; (· (simp only [Act.put, List.setIfInBounds_toArray, List.set_cons_zero, List.set_cons_succ, i64_w, i32_w]; rfl))
                refine pure_ (i := 6) (N := some 95) (v := undef) (a' := ?_) (bitsA 19 127) rfl rfl (any_of HT_.out (by kernel_rfl)) (fun _ _ _ h => h) (Or.inr ⟨by rfl, rfl⟩) ?_ ?_; rotate_left; (· (simp only [Act.put, List.setIfInBounds_toArray, List.set_cons_zero, List.set_cons_succ, i64_w, i32_w]; rfl))
                refine pure_ (i := 7) (N := some 96) (v := undef) (a' := ?_) (bitsA 19 255) rfl rfl (any_of HT_.out (by kernel_rfl)) (fun _ _ _ h => h) (Or.inr ⟨by rfl, rfl⟩) ?_ ?_; rotate_left; (· (simp only [Act.put, List.setIfInBounds_toArray, List.set_cons_zero, List.set_cons_succ, i64_w, i32_w]; rfl))
                refine pure_ (i := 8) (N := some 97) (v := undef) (a' := ?_) (bitsA 19 511) rfl rfl (any_of HT_.out (by kernel_rfl)) (fun _ _ _ h => h) (Or.inr ⟨by rfl, rfl⟩) ?_ ?_; rotate_left; (· (simp only [Act.put, List.setIfInBounds_toArray, List.set_cons_zero, List.set_cons_succ, i64_w, i32_w]; rfl))
                refine pure_ (i := 9) (N := some 98) (v := undef) (a' := ?_) (bitsA 19 1023) rfl rfl (any_of HT_.out (by kernel_rfl)) (fun _ _ _ h => h) (Or.inr ⟨by rfl, rfl⟩) ?_ ?_; rotate_left; (· (simp only [Act.put, List.setIfInBounds_toArray, List.set_cons_zero, List.set_cons_succ, i64_w, i32_w]; rfl))
                refine pure_ (i := 10) (N := some 99) (v := undef) (a' := ?_) (bitsA 19 2047) rfl rfl (any_of HT_.out (by kernel_rfl)) (fun _ _ _ h => h) (Or.inr ⟨by rfl, rfl⟩) ?_ ?_; rotate_left; (· (simp only [Act.put, List.setIfInBounds_toArray, List.set_cons_zero, List.set_cons_succ, i64_w, i32_w]; rfl))
                refine pure_ (i := 11) (N := some 100) (v := undef) (a' := ?_) (bitsA 19 4095) rfl rfl (any_of HT_.out (by kernel_rfl)) (fun _ _ _ h => h) (Or.inr ⟨by rfl, rfl⟩) ?_ ?_; rotate_left; (· (simp only [Act.put, List.setIfInBounds_toArray, List.set_cons_zero, List.set_cons_succ, i64_w, i32_w]; rfl))
                refine pure_ (i := 12) (N := some 101) (v := undef) (a' := ?_) (bitsA 19 8191) rfl rfl (any_of HT_.out (by kernel_rfl)) (fun _ _ _ h => h) (Or.inr ⟨by rfl, rfl⟩) ?_ ?_; rotate_left; (· (simp only [Act.put, List.setIfInBounds_toArray, List.set_cons_zero, List.set_cons_succ, i64_w, i32_w]; rfl))
                refine pure_ (i := 13) (N := some 102) (v := undef) (a' := ?_) (bitsA 19 16383) rfl rfl (any_of HT_.out (by kernel_rfl)) (fun _ _ _ h => h) (Or.inr ⟨by rfl, rfl⟩) ?_ ?_; rotate_left; (· (simp only [Act.put, List.setIfInBounds_toArray, List.set_cons_zero, List.set_cons_succ, i64_w, i32_w]; rfl))
                refine pure_ (i := 14) (N := some 103) (v := undef) (a' := ?_) (bitsA 19 32767) rfl rfl (any_of HT_.out (by kernel_rfl)) (fun _ _ _ h => h) (Or.inr ⟨by rfl, rfl⟩) ?_ ?_; rotate_left; (· (simp only [Act.put, List.setIfInBounds_toArray, List.set_cons_zero, List.set_cons_succ, i64_w, i32_w]; rfl))
                refine pure_ (i := 15) (N := some 104) (v := undef) (a' := ?_) (bitsA 19 65535) rfl rfl (any_of HT_.out (by kernel_rfl)) (fun _ _ _ h => h) (Or.inr ⟨by rfl, rfl⟩) ?_ ?_; rotate_left; (· (simp only [Act.put, List.setIfInBounds_toArray, List.set_cons_zero, List.set_cons_succ, i64_w, i32_w]; rfl))
                refine pure_ (i := 16) (N := some 105) (v := undef) (a' := ?_) (bitsA 19 131071) rfl rfl (any_of HT_.out (by kernel_rfl)) (fun _ _ _ h => h) (Or.inr ⟨by rfl, rfl⟩) ?_ ?_; rotate_left; (· (simp only [Act.put, List.setIfInBounds_toArray, List.set_cons_zero, List.set_cons_succ, i64_w, i32_w]; rfl))
                refine pure_ (i := 17) (N := some 106) (v := undef) (a' := ?_) (bitsA 19 262143) rfl rfl (any_of HT_.out (by kernel_rfl)) (fun _ _ _ h => h) (Or.inr ⟨by rfl, rfl⟩) ?_ ?_; rotate_left; (· (simp only [Act.put, List.setIfInBounds_toArray, List.set_cons_zero, List.set_cons_succ, i64_w, i32_w]; rfl))
                refine pu 18 (some 107) (bitsA 19 524287) ?_
                refine done_ (done_of HT_.out (by kernel_rfl)) ?_
                have hs0 := cw EC0.out HBE.out
                have hs1 := cw EC1.out HBE.out
                have hs2 := cw EC2.out HBE.out
                go_wp2_with (first | ((with_reducible refine gate_builtin (b := .append) (xs := #[.tmp 112, .tmp 117]) rfl ?_); at_builtin; refine Kd.N_append k81 (w0 := wE) wE.heap.size rfl (.tmp 112) (.tmp 117) 24 81 (.agg #[(.string ⟨#[]⟩), (.string ⟨#[]⟩), (.slice none 0 0)]) 56 rfl Try.underlying24 info81 rfl (by decide) (by omega) _ dn s [.string s.f0, .string s.f1, .slice A2 s.f2.length c2] (fun k => w.heap.size ≤ k) (fun k => w.heap.size ≤ k ∧ k < wE.heap.size) rfl rfl ?aP ?aK ?aF ?aO ?aB ?aS ?aL ?_; (case aP => exact Kd.FK_below ES.out HBE.out); (case aK => exact fun k hk => ⟨hk.1, fun e => by have := Kd.N_base HN.out k e.symm; have := hk.2; omega⟩); (case aF => exact fun k hk => NG6.out k (Nat.le_trans HBE.out.size hk)); (case aO => exact HN.out); (case aB => exact HBE.out); (case aS => exact HBE.out.size); (case aL => have := DN.out; omega); intro m2 m2w hN1 hb1 hg1 hat1; obtain ⟨d_m2, hd_m2⟩ : ∃ d, d = dn ++ [s] := ⟨_, rfl⟩; rw [← hd_m2] at hN1; have Em2 := ak hd_m2; replace HN := ak hN1; replace HBE := ak hb1; clear hN1 hb1 hg1 hat1 hd_m2; obtain ⟨Am2, cm2, em2⟩ := Kd.N_slice HN.out; subst em2))
                go_roundg suf.length
                case measure => have := HA.out.2.2.1; simp only [List.length_cons] at this; omega
                case rel => exact ⟨pre ++ [s], suf, d_m2, x15, true, rfl, rfl, ⟨X15.out.2, X15.out.1, Nat.le_refl _, by have := HA.out.2.2.2.1; have := HD.out; rw [Em2.out]; simp only [List.length_append, List.length_singleton]; omega, (fun _ => by rw [HI.out, Em2.out]; simp), (fun h => by cases h)⟩, ⟨HBE.out⟩, ⟨HN.out⟩⟩
              | false =>
                obtain ⟨hdn, HI0⟩ := HA.out.2.2.2.2.2 rfl
                have HI := ak HI0
                have HD := ak (show dn.length = pre.length from by rw [hdn])
                have HDN := ak hdn
                obtain ⟨k5, hk5⟩ := rounds_of (spec_l03Before_ev a b s.f0 s.f1 HAB.out.1 HAB.out.2)
                clear HI0 hdn
                cases hbf : befB a b s.f0 s.f1 with
                | true =>
                  rw [hbf] at hk5
                  have K5 := ak hk5
                  have BF := ak hbf
                  clear hk5 hbf
                  go_wp2
                  replace HBE := ak (below_drew HBE.out)
                  replace HN := ak (Kd.N_drew HN.out)
                  refine start_ (n := 19) (S := fun w' => w'.cell? ⟨gb, 0, none⟩ = some (.string a) ∧ w'.cell? ⟨gb, 1, none⟩ = some (.string b) ∧ w'.cell? ⟨g, x14.toNat * 3, none⟩ = some (.string s.f0) ∧ w'.cell? ⟨g, x14.toNat * 3 + 1, none⟩ = some (.string s.f1)) (ds := []) (bitsA 19 0) (by kernel_rfl) rfl rfl ⟨(cw EB0.out HBE.out), (cw EB1.out HBE.out), (cw EC0.out HBE.out), (cw EC1.out HBE.out)⟩ (fun hHeld => ?_)
                  refine with_tabW spec_PutSample_h.tab23 spec_PutSample_h.bits23 (fun HT_ HW_ => ?_)
                  generalize wr.drew = wd2 at HBE HN hHeld ⊢
                  refine pu 0 (some 89) (bitsA 19 1) ?_
                  refine pu 1 (some 90) (bitsA 19 3) ?_
                  refine pu 2 (some 91) (bitsA 19 7) ?_
                  refine pu 3 (some 92) (bitsA 19 15) ?_
                  refine tk 4 (some 93) (bitsA 19 31) hHeld ?_ (hy := Or.inl ⟨by rfl, by rintro w' ⟨s0, s1, s2, s3⟩; go_simp; with_reducible rfl⟩)
                  refine pu 5 (some 94) (bitsA 19 63) ?_
                  refine tk 6 (some 95) (bitsA 19 127) hHeld ?_ (hy := Or.inl ⟨by rfl, by rintro w' ⟨s0, s1, s2, s3⟩; go_simp; with_reducible rfl⟩)
                  refine pu 7 (some 96) (bitsA 19 255) ?_
                  refine pu 8 (some 97) (bitsA 19 511) ?_
                  refine pu 9 (some 98) (bitsA 19 1023) ?_
                  refine pu 10 (some 99) (bitsA 19 2047) ?_
                  refine tk 11 (some 100) (bitsA 19 4095) hHeld ?_ (hy := Or.inl ⟨by rfl, by rintro w' ⟨s0, s1, s2, s3⟩; go_simp; with_reducible rfl⟩)
                  refine pu 12 (some 101) (bitsA 19 8191) ?_
                  refine pu 13 (some 102) (bitsA 19 16383) ?_
                  refine pu 14 (some 103) (bitsA 19 32767) ?_
                  refine pu 15 (some 104) (bitsA 19 65535) ?_
                  refine tk 16 (some 105) (bitsA 19 131071) hHeld ?_ (hy := Or.inl ⟨by rfl, by rintro w' ⟨s0, s1, s2, s3⟩; go_simp; with_reducible rfl⟩)
                  refine one_ (i := 17) (N := some 106) (bitsA 19 262143) rfl rfl (one_of HT_.out (by kernel_rfl)) (by decide) (fun K hK => ?_)
                  refine goes_ Try.func70 (by kernel_rfl) rfl #[.string a, .string b, .string s.f0, .string s.f1] (by rfl) rfl rfl mt ?_
                  with_reducible refine (spec_l03Before.calls _ a b s.f0 s.f1 true _ K5.out).mono ?_
                  rintro e wc ⟨rfl, hd⟩
                  refine ⟨_, rfl, ?_⟩
                  have hb := drawn_below hd
                  replace HBE := ak (below_step HBE.out hb)
                  replace HN := ak (Kd.N_below HN.out hb)
                  clear hb hd
                  refine hK.out _ _ ⟨(cw EB0.out HBE.out), (cw EB1.out HBE.out), (cw EC0.out HBE.out), (cw EC1.out HBE.out)⟩ (fun hHeld => ?_)
                  clear hK K
                  refine nm ?_
                  refine pu 18 (some 107) (bitsA 19 524287) ?_
                  refine done_ (done_of HT_.out (by kernel_rfl)) ?_
                  have ho0 := cw EO0.out HBE.out
                  have ho1 := cw EO1.out HBE.out
                  have ho2 := cw EO2.out HBE.out
                  go_wp2_with (first | ((with_reducible refine gate_builtin (b := .append) (xs := #[.tmp 108, .tmp 110]) rfl ?_); at_builtin; refine Kd.N_append k81 (w0 := wE) wE.heap.size rfl (.tmp 108) (.tmp 110) 24 81 (.agg #[(.string ⟨#[]⟩), (.string ⟨#[]⟩), (.slice none 0 0)]) 56 rfl Try.underlying24 info81 rfl (by decide) (by omega) _ dn one [.string a, .string b, .slice (some ⟨gq, 0, none⟩) 1 1] (fun k => w.heap.size ≤ k) (fun k => w.heap.size ≤ k ∧ k < wE.heap.size) rfl rfl ?aP ?aK ?aF ?aO ?aB ?aS ?aL ?_; (case aP => exact Kd.FK_below EO.out HBE.out); (case aK => exact fun k hk => ⟨hk.1, fun e => by have := Kd.N_base HN.out k e.symm; have := hk.2; omega⟩); (case aF => exact fun k hk => NG6.out k (Nat.le_trans HBE.out.size hk)); (case aO => exact HN.out); (case aB => exact HBE.out); (case aS => exact HBE.out.size); (case aL => have := DN.out; omega); intro m3 m3w hN1 hb1 hg1 hat1; obtain ⟨d_m3, hd_m3⟩ : ∃ d, d = dn ++ [one] := ⟨_, rfl⟩; rw [← hd_m3] at hN1; have Em3 := ak hd_m3; replace HN := ak hN1; replace HBE := ak hb1; clear hN1 hb1 hg1 hat1 hd_m3; obtain ⟨Am3, cm3, em3⟩ := Kd.N_slice HN.out; subst em3; have hs0 := cw EC0.out HBE.out; have hs1 := cw EC1.out HBE.out; have hs2 := cw EC2.out HBE.out) | ((with_reducible refine gate_builtin (b := .append) (xs := #[.tmp 112, .tmp 117]) rfl ?_); at_builtin; refine Kd.N_append k81 (w0 := wE) wE.heap.size rfl (.tmp 112) (.tmp 117) 24 81 (.agg #[(.string ⟨#[]⟩), (.string ⟨#[]⟩), (.slice none 0 0)]) 56 rfl Try.underlying24 info81 rfl (by decide) (by omega) _ d_m3 s [.string s.f0, .string s.f1, .slice A2 s.f2.length c2] (fun k => w.heap.size ≤ k) (fun k => w.heap.size ≤ k ∧ k < wE.heap.size) rfl rfl ?aP ?aK ?aF ?aO ?aB ?aS ?aL ?_; (case aP => exact Kd.FK_below ES.out HBE.out); (case aK => exact fun k hk => ⟨hk.1, fun e => by have := Kd.N_base HN.out k e.symm; have := hk.2; omega⟩); (case aF => exact fun k hk => NG6.out k (Nat.le_trans HBE.out.size hk)); (case aO => exact HN.out); (case aB => exact HBE.out); (case aS => exact HBE.out.size); (case aL => have := DN.out; have h4 := congrArg List.length Em3.out; simp only [List.length_append, List.length_singleton] at h4; omega); intro m4 m4w hN1 hb1 hg1 hat1; obtain ⟨d_m4, hd_m4⟩ : ∃ d, d = d_m3 ++ [s] := ⟨_, rfl⟩; rw [← hd_m4] at hN1; have Em4 := ak hd_m4; replace HN := ak hN1; replace HBE := ak hb1; clear hN1 hb1 hg1 hat1 hd_m4; obtain ⟨Am4, cm4, em4⟩ := Kd.N_slice HN.out; subst em4))
                  go_roundg suf.length
                  case measure => have := HA.out.2.2.1; simp only [List.length_cons] at this; omega
                  case rel => exact ⟨pre ++ [s], suf, d_m4, x15, true, rfl, rfl, ⟨X15.out.2, X15.out.1, Nat.le_refl _, by have := HA.out.2.2.2.1; have := HD.out; rw [Em4.out, Em3.out]; simp only [List.length_append, List.length_singleton]; omega, (fun _ => by rw [HI.out, Em4.out, Em3.out, HDN.out]; simp only [insB, BF.out, if_true]; simp), (fun h => by cases h)⟩, ⟨HBE.out⟩, ⟨HN.out⟩⟩
                | false =>
                  rw [hbf] at hk5
                  have K5 := ak hk5
                  have BF := ak hbf
                  clear hk5 hbf
                  go_wp2
                  replace HBE := ak (below_drew HBE.out)
                  replace HN := ak (Kd.N_drew HN.out)
                  refine start_ (n := 19) (S := fun w' => w'.cell? ⟨gb, 0, none⟩ = some (.string a) ∧ w'.cell? ⟨gb, 1, none⟩ = some (.string b) ∧ w'.cell? ⟨g, x14.toNat * 3, none⟩ = some (.string s.f0) ∧ w'.cell? ⟨g, x14.toNat * 3 + 1, none⟩ = some (.string s.f1)) (ds := []) (bitsA 19 0) (by kernel_rfl) rfl rfl ⟨(cw EB0.out HBE.out), (cw EB1.out HBE.out), (cw EC0.out HBE.out), (cw EC1.out HBE.out)⟩ (fun hHeld => ?_)
                  refine with_tabW spec_PutSample_h.tab23 spec_PutSample_h.bits23 (fun HT_ HW_ => ?_)
                  generalize wr.drew = wd2 at HBE HN hHeld ⊢
                  refine pu 0 (some 89) (bitsA 19 1) ?_
                  refine pu 1 (some 90) (bitsA 19 3) ?_
                  refine pu 2 (some 91) (bitsA 19 7) ?_
                  refine pu 3 (some 92) (bitsA 19 15) ?_
                  refine tk 4 (some 93) (bitsA 19 31) hHeld ?_ (hy := Or.inl ⟨by rfl, by rintro w' ⟨s0, s1, s2, s3⟩; go_simp; with_reducible rfl⟩)
                  refine pu 5 (some 94) (bitsA 19 63) ?_
                  refine tk 6 (some 95) (bitsA 19 127) hHeld ?_ (hy := Or.inl ⟨by rfl, by rintro w' ⟨s0, s1, s2, s3⟩; go_simp; with_reducible rfl⟩)
                  refine pu 7 (some 96) (bitsA 19 255) ?_
                  refine pu 8 (some 97) (bitsA 19 511) ?_
                  refine pu 9 (some 98) (bitsA 19 1023) ?_
                  refine pu 10 (some 99) (bitsA 19 2047) ?_
                  refine tk 11 (some 100) (bitsA 19 4095) hHeld ?_ (hy := Or.inl ⟨by rfl, by rintro w' ⟨s0, s1, s2, s3⟩; go_simp; with_reducible rfl⟩)
                  refine pu 12 (some 101) (bitsA 19 8191) ?_
                  refine pu 13 (some 102) (bitsA 19 16383) ?_
                  refine pu 14 (some 103) (bitsA 19 32767) ?_
                  refine pu 15 (some 104) (bitsA 19 65535) ?_
                  refine tk 16 (some 105) (bitsA 19 131071) hHeld ?_ (hy := Or.inl ⟨by rfl, by rintro w' ⟨s0, s1, s2, s3⟩; go_simp; with_reducible rfl⟩)
                  refine one_ (i := 17) (N := some 106) (bitsA 19 262143) rfl rfl (one_of HT_.out (by kernel_rfl)) (by decide) (fun K hK => ?_)
                  refine goes_ Try.func70 (by kernel_rfl) rfl #[.string a, .string b, .string s.f0, .string s.f1] (by rfl) rfl rfl mt ?_
                  with_reducible refine (spec_l03Before.calls _ a b s.f0 s.f1 false _ K5.out).mono ?_
                  rintro e wc ⟨rfl, hd⟩
                  refine ⟨_, rfl, ?_⟩
                  have hb := drawn_below hd
                  replace HBE := ak (below_step HBE.out hb)
                  replace HN := ak (Kd.N_below HN.out hb)
                  clear hb hd
                  refine hK.out _ _ ⟨(cw EB0.out HBE.out), (cw EB1.out HBE.out), (cw EC0.out HBE.out), (cw EC1.out HBE.out)⟩ (fun hHeld => ?_)
                  clear hK K
                  refine nm ?_
                  refine pu 18 (some 107) (bitsA 19 524287) ?_
                  refine done_ (done_of HT_.out (by kernel_rfl)) ?_
                  have hs0 := cw EC0.out HBE.out
                  have hs1 := cw EC1.out HBE.out
                  have hs2 := cw EC2.out HBE.out
                  go_wp2_with (first | ((with_reducible refine gate_builtin (b := .append) (xs := #[.tmp 112, .tmp 117]) rfl ?_); at_builtin; refine Kd.N_append k81 (w0 := wE) wE.heap.size rfl (.tmp 112) (.tmp 117) 24 81 (.agg #[(.string ⟨#[]⟩), (.string ⟨#[]⟩), (.slice none 0 0)]) 56 rfl Try.underlying24 info81 rfl (by decide) (by omega) _ dn s [.string s.f0, .string s.f1, .slice A2 s.f2.length c2] (fun k => w.heap.size ≤ k) (fun k => w.heap.size ≤ k ∧ k < wE.heap.size) rfl rfl ?aP ?aK ?aF ?aO ?aB ?aS ?aL ?_; (case aP => exact Kd.FK_below ES.out HBE.out); (case aK => exact fun k hk => ⟨hk.1, fun e => by have := Kd.N_base HN.out k e.symm; have := hk.2; omega⟩); (case aF => exact fun k hk => NG6.out k (Nat.le_trans HBE.out.size hk)); (case aO => exact HN.out); (case aB => exact HBE.out); (case aS => exact HBE.out.size); (case aL => have := DN.out; omega); intro m5 m5w hN1 hb1 hg1 hat1; obtain ⟨d_m5, hd_m5⟩ : ∃ d, d = dn ++ [s] := ⟨_, rfl⟩; rw [← hd_m5] at hN1; have Em5 := ak hd_m5; replace HN := ak hN1; replace HBE := ak hb1; clear hN1 hb1 hg1 hat1 hd_m5; obtain ⟨Am5, cm5, em5⟩ := Kd.N_slice HN.out; subst em5))
                  go_roundg suf.length
                  case measure => have := HA.out.2.2.1; simp only [List.length_cons] at this; omega
                  case rel => exact ⟨pre ++ [s], suf, d_m5, x15, false, rfl, rfl, ⟨X15.out.2, X15.out.1, Nat.le_refl _, by have := HA.out.2.2.2.1; have := HD.out; rw [Em5.out]; simp only [List.length_append, List.length_singleton]; omega, (fun h => by cases h), (fun _ => ⟨by rw [Em5.out, HDN.out], by rw [HI.out]; simp only [insB, BF.out]; simp⟩)⟩, ⟨HBE.out⟩, ⟨HN.out⟩⟩
      · have hnm : isNamed a b s = true := by have := List.find?_some hfd; exact this
        have hjl : j < l.length := (List.getElem?_eq_some_iff.1 hs).1
        have SLN := ak (serOk_len (SOK.out s (List.mem_of_getElem? hs)))
        have pz : 0 ≤ x8 := by omega
        have qz : x8 < (l.length : Int) := by omega
        have PZ := ak pz
        have QZ := ak qz
        have hjt : x8.toNat = j := by omega
        have hrd : rd_T81 l x8 = s := by simp [rd_T81, hjt, List.getD, hs]
        obtain ⟨ad, A2, c2, e0, _, _, hx2, hl2, hC2⟩ := at_T81 hr x8 pz qz
        subst e0
        rw [hrd] at hx2 hl2 hC2
        obtain ⟨y, hy⟩ : ∃ y : Int, y = (s.f2.length : Int) - 1 := ⟨_, rfl⟩
        have wn : IntKind.i64.wrap ((s.f2.length : Int) - 1) = y := (i64_w _).trans (by have := SLN.out; rw [hy]; unfold wrap64; omega)
        have py : 0 ≤ y := by have := SLN.out; omega
        have qy : y < (s.f2.length : Int) := by omega
        obtain ⟨ad2, e2, hp0, _⟩ := at_T37 hC2 y py qy
        subst e2
        obtain ⟨lt, hlt⟩ : ∃ t, t = lastAt s.f2 := ⟨_, rfl⟩
        rw [show (rd_T37 s.f2 y).f0 = lt from by rw [hlt]; unfold lastAt rd_T37; rw [show y.toNat = s.f2.length - 1 from by have := SLN.out; omega]] at hp0
        have cx0 : decide (0 ≤ x8) = true := decide_eq_true pz
        replace pz := eq_true pz
        replace qz := eq_true qz
        replace py := eq_true py
        replace qy := eq_true qy
        have HX2 := ak hx2
        have HL2 := ak hl2
        have HC2 := ak hC2
        have HP0 := ak hp0
        have JT := ak hjt
        obtain ⟨k4, hk4⟩ := rounds_of (spec_l03Points_ev s.f2 (by have := SLN.out; omega))
        have K4 := ak hk4
        have HS6 := ak (show 0 < l.length from by omega)
        clear hx2 hl2 hC2 hp0 hr hrd hjt hj hfd hy hk4 hjl
        by_cases hold : at_ ≤ lt
        · have c5 : decide (at_ ≤ lt) = true := decide_eq_true hold
          rw [putV_s_old OK.out hs hnm (by rw [← hlt]; exact hold)]
          clear hold hs hnm hlt
          go_enter Try.func43, Try.ntmps43
          go_wp2_with (first | ((with_reducible refine gate_dst (N := 3) rfl ?_); refine bx 3 #[.string a, .string b, .int .i64 vl, .int .i64 at_] 30 ?_; intro gb hg w1 hbox hb; have BK := ak hbox; have HB := ak hb; clear hb hbox hg) | ((with_reducible refine gate_dst (N := 16) rfl ?_); refine gl (some 16) Try.func79 #[.slice (some ad) l.length c0] ?_; (refine (spec_l03Copy.calls _ _ _ l l _ ?sa HC.out K0.out).mono ?_); (case sa => exact Kd.C_below HR.out HB.out); rintro e w2 ⟨v6, rfl, ho, hb⟩; refine ⟨_, rfl, ?_⟩; have ST := ak (show SpS w gb #[.string a, .string b, .int .i64 vl, .int .i64 at_] v6 l w2 from ⟨blk_below BK.out hb, kq_S (Kd.S_lower (Kd.S_mono (Kd.S_bound ho) (fun k hk => Nat.le_trans HB.out.size hk.2.1)) HB.out.size), below_step HB.out hb⟩); obtain ⟨g6, c6, e6, _, _, _, _⟩ := Kd.S_form ho HS6.out; subst e6; clear hb ho HB BK) | ((with_reducible refine gate_dst (N := 18) rfl ?_); refine gl (some 18) Try.func16 #[.slice (some ad) l.length c0] ?_; (refine (spec_StoreOk.calls _ _ _ l _ _ ?sb HC.out K1.out).mono ?_); (case sb => exact Kd.C_below HR.out ST.out.2.2); rintro e w3 ⟨rfl, hb⟩; refine ⟨_, rfl, ?_⟩; replace ST := ak (spS_below ST.out hb); clear hb; have BK := ak ST.out.1; obtain ⟨hcz_0, hcz_1, hcz_2, hcz_3, hfz_0, hfz_1, hfz_2, hfz_3⟩ := cz4 BK) | (go_at_call 92; (refine (spec_SampleOk.calls _ _ _ _ _ _ _ K2.out).mono ?_); rintro e w4 ⟨rfl, hb⟩; replace ST := ak (spS_below ST.out hb); clear hb hcz_0 hcz_1 hcz_2 hcz_3 hfz_0 hfz_1 hfz_2 hfz_3 BK; have BK := ak ST.out.1; obtain ⟨hcz_0, hcz_1, hcz_2, hcz_3, hfz_0, hfz_1, hfz_2, hfz_3⟩ := cz4 BK) | ((with_reducible refine gate_dst (N := 7) rfl ?_); refine bx 7 #[.int .i64 0, .int .i64 0] 37 ?_; intro gp hg wp hbox hb; have BP := ak hbox; have GP := ak (show w4.heap.size ≤ gp from by rw [hg]; exact Nat.le_refl _); have HW := ak hb; clear hb hbox hg; obtain ⟨hcp_0, hcp_1, hfp_0, hfp_1⟩ := cz2 BP) | ((with_reducible refine gate_store (t := 37) (p := 7) rfl ?_); refine store_event (t := 37) (p := 7) (v := ?vo_p) (w1 := ((wp.setCell ⟨gp, 0, none⟩ (.int .i64 at_)).setCell ⟨gp, 1, none⟩ (.int .i64 vl))) ?hg ?ho ?hn ?hr ?_; (case ho => rfl); (case hg => rfl); (case hn => rfl); (case hr => first | (go_simp; done) | (go_simp; rfl)); intro wq hw; have hb : Below w4.heap.size w4 wq := (by rw [hw]; exact below_set (below_set HW.out GP.out) GP.out); replace ST := ak (spS_below ST.out hb); have BQ := ak (show wq.heap[gp]? = some (.cells #[.int .i64 at_, .int .i64 vl] 37 (0, 0)) from by rw [hw]; exact blk_put (cs := #[.int .i64 at_, .int .i64 0]) (blk_put (cs := #[.int .i64 0, .int .i64 0]) BP.out 0 _ rfl) 1 _ rfl); clear hb hw hcp_0 hcp_1 hfp_0 hfp_1 BP GP HW BK hcz_0 hcz_1 hcz_2 hcz_3 hfz_0 hfz_1 hfz_2 hfz_3; have BK := ak ST.out.1; obtain ⟨hcz_0, hcz_1, hcz_2, hcz_3, hfz_0, hfz_1, hfz_2, hfz_3⟩ := cz4 BK) | ((with_reducible refine gate_dst (N := 36) rfl ?_); refine gl (some 36) Try.func93 #[.slice (some ad) l.length c0, .string a, .string b] ?_; (refine (spec_l03At.calls _ _ _ l a b x8 _ ?sc HC.out K3.out).mono ?_); (case sc => exact Kd.C_below HR.out ST.out.2.2); rintro e w5 ⟨rfl, hd⟩; refine ⟨_, rfl, ?_⟩; have hb := drawn_below hd; replace ST := ak (spS_below ST.out hb); replace BQ := ak (blk_below BQ.out hb); clear hd hb hcz_0 hcz_1 hcz_2 hcz_3 hfz_0 hfz_1 hfz_2 hfz_3 BK; have BK := ak ST.out.1; obtain ⟨hcz_0, hcz_1, hcz_2, hcz_3, hfz_0, hfz_1, hfz_2, hfz_3⟩ := cz4 BK; have hxp := cw HX2.out ST.out.2.2))
          clear hxp hcz_0 hcz_1 hcz_2 hcz_3 hfz_0 hfz_1 hfz_2 hfz_3
          replace ST := ak (spS_below ST.out (below_drew (Below.refl _ _)))
          replace BK := ak (blk_drew BK.out)
          replace BQ := ak (blk_drew BQ.out)
          refine start_ (n := 10) (S := fun w' => w'.cell? (ad2.add (y.toNat * 2)) = some (.int .i64 lt) ∧ w'.cell? ⟨gb, 3, none⟩ = some (.int .i64 at_)) (ds := []) (bitsA 10 0) (by kernel_rfl) rfl rfl ⟨(cw HP0.out ST.out.2.2), bc BK 3⟩ (fun hHeld => ?_)
          refine with_tabW spec_PutSample_h.tab8 spec_PutSample_h.bits8 (fun HT_ HW_ => ?_)
          generalize w5.drew = w6 at ST BK BQ hHeld ⊢
          refine pu 0 (some 44) (bitsA 10 1) ?_
          refine pu 1 (some 45) (bitsA 10 3) ?_
          refine pu 2 (some 46) (bitsA 10 7) ?_
          refine pu 3 (some 47) (bitsA 10 15) ?_
          refine pu 4 (some 48) (bitsA 10 31) ?_
          refine pu 5 (some 49) (bitsA 10 63) ?_
          refine tk 6 (some 50) (bitsA 10 127) hHeld ?_ (hy := Or.inl ⟨by rfl, by rintro w' ⟨s0, s1⟩; go_simp; with_reducible rfl⟩)
          refine pu 7 (some 51) (bitsA 10 255) ?_
          refine tk 8 (some 52) (bitsA 10 511) hHeld ?_ (hy := Or.inl ⟨by rfl, by rintro w' ⟨s0, s1⟩; go_simp; with_reducible rfl⟩)
          refine pu 9 (some 53) (bitsA 10 1023) ?_
          refine done_ (done_of HT_.out (by kernel_rfl)) ?_
          go_wp2
          go_ret2
          exact spS_ret ST.out
        · have c5 : decide (at_ ≤ lt) = false := decide_eq_false hold
          rw [putV_s_done OK.out hs hnm (by rw [← hlt]; exact hold)]
          rw [← JT.out]
          have GS := ak (show l.getD x8.toNat z81 = s from by rw [JT.out]; simp [List.getD, hs])
          clear hold hs hnm hlt
          go_enter Try.func43, Try.ntmps43
          go_wp2_with (first | ((with_reducible refine gate_dst (N := 3) rfl ?_); refine bx 3 #[.string a, .string b, .int .i64 vl, .int .i64 at_] 30 ?_; intro gb hg w1 hbox hb; have BK := ak hbox; have HB := ak hb; clear hb hbox hg) | ((with_reducible refine gate_dst (N := 16) rfl ?_); refine gl (some 16) Try.func79 #[.slice (some ad) l.length c0] ?_; (refine (spec_l03Copy.calls _ _ _ l l _ ?sa HC.out K0.out).mono ?_); (case sa => exact Kd.C_below HR.out HB.out); rintro e w2 ⟨v6, rfl, ho, hb⟩; refine ⟨_, rfl, ?_⟩; have ST := ak (show SpS w gb #[.string a, .string b, .int .i64 vl, .int .i64 at_] v6 l w2 from ⟨blk_below BK.out hb, kq_S (Kd.S_lower (Kd.S_mono (Kd.S_bound ho) (fun k hk => Nat.le_trans HB.out.size hk.2.1)) HB.out.size), below_step HB.out hb⟩); obtain ⟨g6, c6, e6, _, _, _, _⟩ := Kd.S_form ho HS6.out; subst e6; clear hb ho HB BK) | ((with_reducible refine gate_dst (N := 18) rfl ?_); refine gl (some 18) Try.func16 #[.slice (some ad) l.length c0] ?_; (refine (spec_StoreOk.calls _ _ _ l _ _ ?sb HC.out K1.out).mono ?_); (case sb => exact Kd.C_below HR.out ST.out.2.2); rintro e w3 ⟨rfl, hb⟩; refine ⟨_, rfl, ?_⟩; replace ST := ak (spS_below ST.out hb); clear hb; have BK := ak ST.out.1; obtain ⟨hcz_0, hcz_1, hcz_2, hcz_3, hfz_0, hfz_1, hfz_2, hfz_3⟩ := cz4 BK) | (go_at_call 92; (refine (spec_SampleOk.calls _ _ _ _ _ _ _ K2.out).mono ?_); rintro e w4 ⟨rfl, hb⟩; replace ST := ak (spS_below ST.out hb); clear hb hcz_0 hcz_1 hcz_2 hcz_3 hfz_0 hfz_1 hfz_2 hfz_3 BK; have BK := ak ST.out.1; obtain ⟨hcz_0, hcz_1, hcz_2, hcz_3, hfz_0, hfz_1, hfz_2, hfz_3⟩ := cz4 BK) | ((with_reducible refine gate_dst (N := 7) rfl ?_); refine bx 7 #[.int .i64 0, .int .i64 0] 37 ?_; intro gp hg wp hbox hb; have BP := ak hbox; have GP := ak (show w4.heap.size ≤ gp from by rw [hg]; exact Nat.le_refl _); have HW := ak hb; clear hb hbox hg; obtain ⟨hcp_0, hcp_1, hfp_0, hfp_1⟩ := cz2 BP) | ((with_reducible refine gate_store (t := 37) (p := 7) rfl ?_); refine store_event (t := 37) (p := 7) (v := ?vo_p) (w1 := ((wp.setCell ⟨gp, 0, none⟩ (.int .i64 at_)).setCell ⟨gp, 1, none⟩ (.int .i64 vl))) ?hg ?ho ?hn ?hr ?_; (case ho => rfl); (case hg => rfl); (case hn => rfl); (case hr => first | (go_simp; done) | (go_simp; rfl)); intro wq hw; have hb : Below w4.heap.size w4 wq := (by rw [hw]; exact below_set (below_set HW.out GP.out) GP.out); replace ST := ak (spS_below ST.out hb); have BQ := ak (show wq.heap[gp]? = some (.cells #[.int .i64 at_, .int .i64 vl] 37 (0, 0)) from by rw [hw]; exact blk_put (cs := #[.int .i64 at_, .int .i64 0]) (blk_put (cs := #[.int .i64 0, .int .i64 0]) BP.out 0 _ rfl) 1 _ rfl); clear hb hw hcp_0 hcp_1 hfp_0 hfp_1 BP GP HW BK hcz_0 hcz_1 hcz_2 hcz_3 hfz_0 hfz_1 hfz_2 hfz_3; have BK := ak ST.out.1; obtain ⟨hcz_0, hcz_1, hcz_2, hcz_3, hfz_0, hfz_1, hfz_2, hfz_3⟩ := cz4 BK) | ((with_reducible refine gate_dst (N := 36) rfl ?_); refine gl (some 36) Try.func93 #[.slice (some ad) l.length c0, .string a, .string b] ?_; (refine (spec_l03At.calls _ _ _ l a b x8 _ ?sc HC.out K3.out).mono ?_); (case sc => exact Kd.C_below HR.out ST.out.2.2); rintro e w5 ⟨rfl, hd⟩; refine ⟨_, rfl, ?_⟩; have hb := drawn_below hd; replace ST := ak (spS_below ST.out hb); replace BQ := ak (blk_below BQ.out hb); clear hd hb hcz_0 hcz_1 hcz_2 hcz_3 hfz_0 hfz_1 hfz_2 hfz_3 BK; have BK := ak ST.out.1; obtain ⟨hcz_0, hcz_1, hcz_2, hcz_3, hfz_0, hfz_1, hfz_2, hfz_3⟩ := cz4 BK; have hxp := cw HX2.out ST.out.2.2))
          clear hxp hcz_0 hcz_1 hcz_2 hcz_3 hfz_0 hfz_1 hfz_2 hfz_3
          replace ST := ak (spS_below ST.out (below_drew (Below.refl _ _)))
          replace BK := ak (blk_drew BK.out)
          replace BQ := ak (blk_drew BQ.out)
          refine start_ (n := 10) (S := fun w' => w'.cell? (ad2.add (y.toNat * 2)) = some (.int .i64 lt) ∧ w'.cell? ⟨gb, 3, none⟩ = some (.int .i64 at_)) (ds := []) (bitsA 10 0) (by kernel_rfl) rfl rfl ⟨(cw HP0.out ST.out.2.2), bc BK 3⟩ (fun hHeld => ?_)
          refine with_tabW spec_PutSample_h.tab8 spec_PutSample_h.bits8 (fun HT_ HW_ => ?_)
          generalize w5.drew = w6 at ST BK BQ hHeld ⊢
          refine pu 0 (some 44) (bitsA 10 1) ?_
          refine pu 1 (some 45) (bitsA 10 3) ?_
          refine pu 2 (some 46) (bitsA 10 7) ?_
          refine pu 3 (some 47) (bitsA 10 15) ?_
          refine pu 4 (some 48) (bitsA 10 31) ?_
          refine pu 5 (some 49) (bitsA 10 63) ?_
          refine tk 6 (some 50) (bitsA 10 127) hHeld ?_ (hy := Or.inl ⟨by rfl, by rintro w' ⟨s0, s1⟩; go_simp; with_reducible rfl⟩)
          refine pu 7 (some 51) (bitsA 10 255) ?_
          refine tk 8 (some 52) (bitsA 10 511) hHeld ?_ (hy := Or.inl ⟨by rfl, by rintro w' ⟨s0, s1⟩; go_simp; with_reducible rfl⟩)
          refine pu 9 (some 53) (bitsA 10 1023) ?_
          refine done_ (done_of HT_.out (by kernel_rfl)) ?_
          go_wp2
          replace ST := ak (spS_below ST.out (below_drew (Below.refl _ _)))
          replace BQ := ak (blk_drew BQ.out)
          refine start_ (n := 6) (S := fun w' => w'.cell? ⟨gp, 0, none⟩ = some (.int .i64 at_) ∧ w'.cell? ⟨gp, 1, none⟩ = some (.int .i64 vl)) (ds := []) #[false, false, false, false, false, false] (by kernel_rfl) rfl rfl ⟨bc BQ 0, bc BQ 1⟩ (fun hHeld => ?_)
          generalize w6.drew = w7 at ST BQ hHeld ⊢
          refine pure_ (i := 0) (N := some 55) (v := ?_) (a' := ?_) #[true, false, false, false, false, false] rfl rfl (by kernel_rfl) (fun _ _ _ h => h) (Or.inl ⟨by rfl, ?_⟩) ?_ ?_; rotate_left; (· (intro w'; go_simp; with_reducible rfl)); rotate_left; (· (simp only [Act.put, List.setIfInBounds_toArray, List.set_cons_zero, List.set_cons_succ, i64_w, i32_w]; rfl))
          refine take_ (i := 2) (N := some 57) (v := ?_) (a' := ?_) #[true, false, true, false, false, false] rfl rfl (by kernel_rfl) (fun _ _ _ h => h) (Or.inl ⟨by rfl, ?_⟩) hHeld ?_ ?_; rotate_left; (· (rintro w' ⟨s0, s1⟩; go_simp; with_reducible rfl)); rotate_left; (· (simp only [Act.put, List.setIfInBounds_toArray, List.set_cons_zero, List.set_cons_succ, i64_w, i32_w]; rfl))
          refine join_ (σ := Value × Value) 2 #[true, true, true, true, false, false] (fun s_ => [(56, s_.1), (58, s_.2)]) (fun s_ w' => Below w7.heap.size w7 w' ∧ Kd.R k37 37 w' w7.heap.size (fun _ => True) s_.1 s.f2 ∧ Kd.R k37 37 w' w7.heap.size (fun _ => True) s_.2 [⟨at_, vl⟩]) ?_ ?_
          rotate_left
          · intro hCont
            refine two_ (i := 1) (j := 3) (Ni := some 56) (Nj := some 58) #[true, true, true, false, false, false] #[true, false, true, true, false, false] rfl rfl rfl rfl (by kernel_rfl) (by decide) (by decide) (fun K hK => ?_) (fun K hK => ?_)
            · have HD := ak (Below.refl w7.heap.size w7)
              refine goes_ Try.func94 (by kernel_rfl) rfl #[.slice (some ad2) s.f2.length c2] (by rfl) rfl rfl mt ?_
              refine (spec_l03Points.calls _ _ _ s.f2 s.f2 _ ?side1 HL2.out K4.out).mono ?_
              (case side1 => exact Kd.C_below HC2.out (below_step ST.out.2.2 HD.out))
              rintro e wf ⟨v56, rfl, ho56, hb⟩
              refine ⟨_, rfl, ?_⟩
              have H56 := ak ho56
              replace HD := ak hb
              clear hb ho56
              refine hK.out _ _ ⟨bc (ak (blk_below BQ.out HD.out)) 0, bc (ak (blk_below BQ.out HD.out)) 1⟩ (fun hHeld => ?_)
              clear hK K
              refine nm ?_
              refine one_ (i := 3) (N := some 58) #[true, true, true, true, false, false] rfl rfl (by kernel_rfl) (by decide) (fun K hK => ?_)
              refine Kd.R_lit_step k37 _ 37 ?hg (N := 58) ?hd (xs := ([(⟨at_, vl⟩ : S37)] : List S37)) (inner := [.int .i64 at_, .int .i64 vl]) (ok := fun _ => True) (okp := fun _ => True) ?hr ?hp (fun _ hk => hk) trivial (Below.refl _ _) (Nat.le_refl _) (by simp) ?_; (case hd => rfl); (case hg => rfl); (case hr => first | (go_simp; done) | (go_simp; rfl)); (case hp => exact (Reps.c2 (show Kd.M k37 _ _ _ (⟨at_, vl⟩ : S37) [.int .i64 at_, .int .i64 vl] from (k37_mkM _ _ _ (⟨at_, vl⟩ : S37))) (Reps.none _ _)))
              intro v58 wg ho58 hb hg_ hnew_
              clear hg_ hnew_
              have H58 := ak (Kd.R_lower ho58 HD.out.size)
              replace H56 := ak (Kd.R_below H56.out hb)
              replace HD := ak (below_step HD.out hb)
              clear hb ho58
              refine hK.out _ _ ⟨bc (ak (blk_below BQ.out HD.out)) 0, bc (ak (blk_below BQ.out HD.out)) 1⟩ (fun hHeld => ?_)
              clear hK K
              refine nm ?_
              exact norm_ (by first | (simp only [putAll, Act.put, List.setIfInBounds_toArray, List.set_cons_zero, List.set_cons_succ]; done) | (simp only [putAll, Act.put, List.setIfInBounds_toArray, List.set_cons_zero, List.set_cons_succ]; rfl)) (hCont (v56, v58) _ ⟨HD.out, H56.out, H58.out⟩)
            · have HD := ak (Below.refl w7.heap.size w7)
              refine Kd.R_lit_step k37 _ 37 ?hg (N := 58) ?hd (xs := ([(⟨at_, vl⟩ : S37)] : List S37)) (inner := [.int .i64 at_, .int .i64 vl]) (ok := fun _ => True) (okp := fun _ => True) ?hr ?hp (fun _ hk => hk) trivial (Below.refl _ _) (Nat.le_refl _) (by simp) ?_; (case hd => rfl); (case hg => rfl); (case hr => first | (go_simp; done) | (go_simp; rfl)); (case hp => exact (Reps.c2 (show Kd.M k37 _ _ _ (⟨at_, vl⟩ : S37) [.int .i64 at_, .int .i64 vl] from (k37_mkM _ _ _ (⟨at_, vl⟩ : S37))) (Reps.none _ _)))
              intro v58 wf ho58 hb hg_ hnew_
              clear hg_ hnew_
              have H58 := ak ho58
              replace HD := ak hb
              clear hb ho58
              refine hK.out _ _ ⟨bc (ak (blk_below BQ.out HD.out)) 0, bc (ak (blk_below BQ.out HD.out)) 1⟩ (fun hHeld => ?_)
              clear hK K
              refine nm ?_
              refine one_ (i := 1) (N := some 56) #[true, true, true, true, false, false] rfl rfl (by kernel_rfl) (by decide) (fun K hK => ?_)
              refine goes_ Try.func94 (by kernel_rfl) rfl #[.slice (some ad2) s.f2.length c2] (by rfl) rfl rfl mt ?_
              refine (spec_l03Points.calls _ _ _ s.f2 s.f2 _ ?side1 HL2.out K4.out).mono ?_
              (case side1 => exact Kd.C_below HC2.out (below_step ST.out.2.2 HD.out))
              rintro e wg ⟨v56, rfl, ho56, hb⟩
              refine ⟨_, rfl, ?_⟩
              have H56 := ak (Kd.R_lower ho56 HD.out.size)
              replace H58 := ak (Kd.R_below H58.out hb)
              replace HD := ak (below_step HD.out hb)
              clear hb ho56
              refine hK.out _ _ ⟨bc (ak (blk_below BQ.out HD.out)) 0, bc (ak (blk_below BQ.out HD.out)) 1⟩ (fun hHeld => ?_)
              clear hK K
              refine nm ?_
              exact norm_ (by first | (simp only [putAll, Act.put, List.setIfInBounds_toArray, List.set_cons_zero, List.set_cons_succ]; done) | (simp only [putAll, Act.put, List.setIfInBounds_toArray, List.set_cons_zero, List.set_cons_succ]; rfl)) (hCont (v56, v58) _ ⟨HD.out, H56.out, H58.out⟩)
          rintro ⟨v56, v58⟩ w8 ⟨hd_, h56, h58⟩
          have HD := ak hd_
          have H56 := ak h56
          have H58 := ak h58
          clear hd_ h56 h58
          obtain ⟨A58, c58, e58⟩ := Kd.R_slice H58.out
          subst e58
          refine norm_ (a' := ?_) ?_ ?_
          rotate_left
          · simp only [putAll, Act.put, List.setIfInBounds_toArray, List.set_cons_zero, List.set_cons_succ]
            rfl
          refine one_ (i := 4) (N := some 59) #[true, true, true, true, true, false] rfl rfl (by kernel_rfl) (by decide) (fun K hK => ?_)
          refine Kd.R_append_rows_step k37 (w0 := w7) w7.heap.size (by rfl) (.tmp 56) (.tmp 58) 31 37 (.agg #[(.int .i64 0), (.int .i64 0)]) 16 rfl Try.underlying31 info37 rfl (by decide) (by omega) v56 s.f2 [(⟨at_, vl⟩ : S37)] _ _ _ (fun _ => True) (fun _ => False) rfl rfl ?aO ?aR (fun _ _ h => h) (fun _ h => h.elim) ?aF ?aB ?aS ?aL ?_
          (case aR => exact (Kd.R_reads' H58.out).2.2)
          (case aB => exact HD.out)
          (case aF => exact fun _ _ => trivial)
          (case aO => exact H56.out)
          (case aS => exact HD.out.size)
          (case aL => have := SLN.out; simp only [List.length_singleton]; omega)
          intro v59 w9 ho59 hb59 hg59 hat59
          clear hg59 hat59 HD
          have HD := ak hb59
          have H59 := ak ho59
          clear hb59 ho59
          refine hK.out _ _ ⟨bc (ak (blk_below BQ.out HD.out)) 0, bc (ak (blk_below BQ.out HD.out)) 1⟩ (fun hHeld => ?_)
          clear hK K
          refine nm ?_
          obtain ⟨g9, c9, e9, _, _, _, _⟩ := Kd.R_form H59.out (by simp)
          rw [List.length_append, List.length_singleton] at e9
          subst e9
          refine pure_ (i := 5) (N := some 10) (v := ?_) (a' := ?_) #[true, true, true, true, true, true] rfl rfl (by kernel_rfl) (fun _ _ _ h => h) (Or.inl ⟨by rfl, ?_⟩) ?_ ?_; rotate_left; (· (intro w'; go_simp; with_reducible rfl)); rotate_left; (· (simp only [Act.put, List.setIfInBounds_toArray, List.set_cons_zero, List.set_cons_succ, i64_w, i32_w]; rfl))
          refine done_ (by kernel_rfl) ?_
          have hS := Kd.S_below (Kd.S_mono (Kd.S_bound ST.out.2.1) (ok' := fun k => w.heap.size ≤ k ∧ ¬ w7.heap.size ≤ k) (fun k hk => ⟨hk.1, Nat.not_le_of_lt hk.2.2.1⟩)) HD.out
          have G6 := ak (show w.heap.size ≤ g6 ∧ g6 < w7.heap.size from ⟨Kd.S_base ST.out.2.1 g6 (by simp [Value.ownBlock]), Kd.S_lt ST.out.2.1 g6 (by simp [Value.ownBlock])⟩)
          obtain ⟨oki, c_, hcl, hM, hcc, hfr, hoki, hH⟩ := Kd.S_elem hS z81 x8 PZ.out QZ.out
          rw [GS.out] at hM
          obtain ⟨v2, rfl, hQ⟩ := kq_openM hM
          have hc2 : w9.cell? ⟨g6, x8.toNat * 3 + 2, none⟩ = some v2 := hcc 2 _ rfl
          have hf2 : w9.frozen? ⟨g6, x8.toNat * 3 + 2, none⟩ = false := hfr 2
          obtain ⟨Az, cz_, ez, _⟩ := Kd.Q_slice hQ
          subst ez
          have cn := (Kd.R_reads' H59.out).2.1
          have HH := ak hH
          clear hS hcl hM hcc hfr hoki hH hQ
          by_cases h12 : s.f2.length = 12
          · have cy6 : decide ((12 : Int) < (s.f2.length : Int) + 1) = true := decide_eq_true (by omega)
            have HK12 := ak (show s.f2.length + 1 - 12 = 1 from by have := SLN.out; omega)
            have cn1 : ¬ (c9 = 1) := by omega
            have kl2 : (1 : Int) ≤ (s.f2.length : Int) + 1 := by omega
            have cy7 : decide (12 < s.f2.length + 1) = true := decide_eq_true (by omega)
            clear h12
            go_wp2_with (first | ((with_reducible refine gate_store (t := 31) (p := 69) rfl ?_); refine store_event (t := 31) (p := 69) (v := ?vo_s) (w1 := (w9.setCell ⟨g6, x8.toNat * 3 + 2, none⟩ (.slice (some ⟨g9, 2, none⟩) s.f2.length (c9 - 1)))) ?hg ?ho ?hn ?hr ?_; (case ho => rfl); (case hg => rfl); (case hn => rfl); (case hr => first | (go_simp; done) | (go_simp; rfl)); intro wb hw; have hq0 := Kd.Q_bound (Kd.Q_of_R H59.out); have hd_ := Kd.Q_drop hq0 (k := 1) (by rw [List.length_append, List.length_singleton]; omega); rw [if_neg cn1, Nat.add_sub_cancel, Option.map_some, Addr.add_lit] at hd_; have hqd : Kd.Q k37 37 w9 w.heap.size (fun k => w7.heap.size ≤ k) (.slice (some ⟨g9, 2, none⟩) s.f2.length (c9 - 1)) (pushP s.f2 ⟨at_, vl⟩) := (by unfold pushP; rw [HK12.out]; exact Kd.Q_lower (Kd.Q_mono hd_ (fun k hk => hk.2.1)) ST.out.2.2.size); have HSG := Kd.S_seg (okg := fun k => w7.heap.size ≤ k) HH.out PZ.out QZ.out (seg := [.slice (some ⟨g9, 2, none⟩) s.f2.length (c9 - 1)]) (j := 2) (show 2 + 1 ≤ 3 from by decide) (x' := (⟨s.f0, s.f1, pushP s.f2 ⟨at_, vl⟩⟩ : S81)) (kq_mkM _ _ _ (⟨s.f0, s.f1, pushP s.f2 ⟨at_, vl⟩⟩ : S81) hqd) (fun k hk => .inr hk) (fun k hk => ⟨Nat.le_trans ST.out.2.2.size hk, by have := G6.out.2; omega⟩); have HF := ak (show Kd.S kq 81 wb w.heap.size (fun k => w.heap.size ≤ k) (.slice (some ⟨g6, 0, none⟩) l.length c6) (l.set x8.toNat ⟨s.f0, s.f1, pushP s.f2 ⟨at_, vl⟩⟩) from by rw [hw]; exact HSG.1); have HFB := ak (show Below w.heap.size w wb from by rw [hw]; exact below_set (below_step ST.out.2.2 HD.out) G6.out.1); clear HSG hq0 hd_ hqd hw))
            go_ret2
            exact spQ_ret HF.out HFB.out (by rw [List.length_set])
          · have cy6 : decide ((12 : Int) < (s.f2.length : Int) + 1) = false := decide_eq_false (by have := SLN.out; omega)
            have HK12 := ak (show s.f2.length + 1 - 12 = 0 from by have := SLN.out; omega)
            have kl2 : (1 : Int) ≤ (s.f2.length : Int) + 1 := by omega
            have cy7 : decide (12 < s.f2.length + 1) = false := decide_eq_false (by have := SLN.out; omega)
            clear h12
            go_wp2_with (first | ((with_reducible refine gate_store (t := 31) (p := 69) rfl ?_); refine store_event (t := 31) (p := 69) (v := ?vo_s) (w1 := (w9.setCell ⟨g6, x8.toNat * 3 + 2, none⟩ (.slice (some ⟨g9, 0, none⟩) (s.f2.length + 1) c9))) ?hg ?ho ?hn ?hr ?_; (case ho => rfl); (case hg => rfl); (case hn => rfl); (case hr => first | (go_simp; done) | (go_simp; rfl)); intro wb hw; have hq0 := Kd.Q_bound (Kd.Q_of_R H59.out); have hd_ := hq0; have hqd : Kd.Q k37 37 w9 w.heap.size (fun k => w7.heap.size ≤ k) (.slice (some ⟨g9, 0, none⟩) (s.f2.length + 1) c9) (pushP s.f2 ⟨at_, vl⟩) := (by unfold pushP; rw [HK12.out, List.drop_zero]; exact Kd.Q_lower (Kd.Q_mono hd_ (fun k hk => hk.2.1)) ST.out.2.2.size); have HSG := Kd.S_seg (okg := fun k => w7.heap.size ≤ k) HH.out PZ.out QZ.out (seg := [.slice (some ⟨g9, 0, none⟩) (s.f2.length + 1) c9]) (j := 2) (show 2 + 1 ≤ 3 from by decide) (x' := (⟨s.f0, s.f1, pushP s.f2 ⟨at_, vl⟩⟩ : S81)) (kq_mkM _ _ _ (⟨s.f0, s.f1, pushP s.f2 ⟨at_, vl⟩⟩ : S81) hqd) (fun k hk => .inr hk) (fun k hk => ⟨Nat.le_trans ST.out.2.2.size hk, by have := G6.out.2; omega⟩); have HF := ak (show Kd.S kq 81 wb w.heap.size (fun k => w.heap.size ≤ k) (.slice (some ⟨g6, 0, none⟩) l.length c6) (l.set x8.toNat ⟨s.f0, s.f1, pushP s.f2 ⟨at_, vl⟩⟩) from by rw [hw]; exact HSG.1); have HFB := ak (show Below w.heap.size w wb from by rw [hw]; exact below_set (below_step ST.out.2.2 HD.out) G6.out.1); clear HSG hq0 hd_ hqd hw))
            go_ret2
            exact spQ_ret HF.out HFB.out (by rw [List.length_set])
end Go.Proofs.Ytplekidnlofioaa.Q
namespace Go.Proofs.Ytplekidnlofioaa.Q
open Go.RowKit Go.Proofs.YtplekidnlofioaaW.PrintWords Go.Proofs.YtplekidnlofioaaW.PrintLast Go.Proofs.YtplekidnlofioaaW.PrintMore
attribute [local go_sem] max2_int min2_int max_two min_two max_three min_three max_four min_four
set_option linter.unusedVariables false
set_option linter.unusedSimpArgs false
theorem markP_app : ∀ (r t : List S37) (a : Int), markP a (r ++ t) = markP a r ++ markP (a + 2 * r.length) t
  | [], t, a => by simp [markP]
  | s :: r, t, a => by
    simp only [List.cons_append, markP, markP_app r t, List.length_cons]
    rw [show a + 2 + 2 * (r.length : Int) = a + 2 * ((r.length + 1 : Nat) : Int) from by omega]
set_option maxHeartbeats 8000000 in
set_option maxRecDepth 100000 in
theorem markPointsQ (P0_ : Nat → Prop) (u : Value) (l : List S37) (a : Int) (w0 w : World) (hB : Below w0.heap.size w0 w) (ho : Kd.Q k37 37 w w0.heap.size P0_ u l) (h0 : 0 ≤ a) (h1 : a + 2 * l.length ≤ 4611686018427387000) :
    Calls Try.prog 83 #[u, .int .i64 a] w fun e w' => e = .returned (.int .i64 (a + 2 * l.length)) ∧ Kd.Q k37 37 w' w0.heap.size P0_ u (markP a l) ∧ Below w0.heap.size w0 w' ∧ Kept w w' P0_ := by
  have HO := ak ho
  have HK := ak (Kept.refl w P0_)
  have HB := ak hB
  have AR := ak (show 0 ≤ a ∧ a + 2 * (l.length : Int) ≤ 4611686018427387000 from ⟨h0, h1⟩)
  clear hB ho h0 h1
  go_enter Try.func83, Try.ntmps83
  go_wp2
  go_loopg [1, 5] l.length (fun kq v1 v5 w' => ∃ (pre suf : List S37) (x1 x5 : Int), v1 = .int .i64 x1 ∧ v5 = .int .i64 x5 ∧ Aside0 (l = pre ++ suf ∧ x1 = a + 2 * pre.length ∧ x5 = (pre.length : Int) ∧ suf.length ≤ kq) ∧ Aside0 (Kd.Q k37 37 w' w0.heap.size P0_ u (markP a pre ++ suf)) ∧ Aside0 (Kept w w' P0_) ∧ Aside0 (Below w0.heap.size w0 w'))
  case atStart => exact ⟨[], l, a, 0, rfl, rfl, ⟨⟨rfl, by simp, rfl, Nat.le_refl _⟩⟩, HO, HK, HB⟩
  case round =>
    clear HO HK HB
    obtain ⟨pre, suf, x1, x5, rfl, rfl, HA, HO, HK, HB⟩ := hrel
    cases suf with
    | nil =>
      obtain ⟨hl, e1, e5, _⟩ := HA.out
      rw [List.append_nil] at hl HO
      subst hl
      obtain ⟨Ao, co, eo, _⟩ := Kd.Q_slice HO.out
      have c3b0 : decide (x5 < ((markP a l).length : Int)) = false := decide_eq_false (by rw [markP_len, e5]; omega)
      subst eo
      clear e5
      go_wp2
      go_ret
      exact ⟨by first | rfl | (rw [e1]; rfl), HO.out, HB.out, HK.out⟩
    | cons s suf =>
      obtain ⟨hl, e1, e5, hk⟩ := HA.out
      obtain ⟨a0, a1⟩ := AR.out
      have hl3 : l.length = pre.length + (suf.length + 1) := by rw [hl, List.length_append, List.length_cons]
      obtain ⟨x2, hx2⟩ : ∃ y, y = x1 + 1 := ⟨_, rfl⟩
      obtain ⟨x3, hx3⟩ : ∃ y, y = x2 + 1 := ⟨_, rfl⟩
      obtain ⟨x6, hx6⟩ : ∃ y, y = x5 + 1 := ⟨_, rfl⟩
      have w12 := wrap_eq x1 x2 hx2 (by omega) (by omega)
      have w23 := wrap_eq x2 x3 hx3 (by omega) (by omega)
      have w56 := wrap_eq x5 x6 hx6 (by omega) (by omega)
      have HN := ak (show x3 = a + 2 * ((pre ++ [s]).length : Int) ∧ x6 = ((pre ++ [s]).length : Int) ∧ l = (pre ++ [s]) ++ suf from ⟨by rw [List.length_append, List.length_singleton]; omega, by rw [List.length_append, List.length_singleton]; omega, by rw [hl]; simp⟩)
      have HL := ak (show markP a pre ++ (⟨x1, x2⟩ : S37) :: suf = markP a (pre ++ [s]) ++ suf from by rw [markP_app]; simp only [markP, List.append_assoc, List.singleton_append]; rw [← e1, ← hx2])
      have htn : x5.toNat = (markP a pre).length := by rw [markP_len]; omega
      have hg1 : ∀ y : S37, (markP a pre ++ y :: suf).getD x5.toNat z37 = y := fun y => by rw [htn]; exact getD_mid _ _ _ _
      have hg2 : ∀ y z : S37, (markP a pre ++ y :: suf).set x5.toNat z = markP a pre ++ z :: suf := fun y z => by rw [htn]; exact set_mid _ _ _ _
      have hll : (markP a pre ++ s :: suf).length = l.length := by rw [List.length_append, List.length_cons, markP_len, hl3]
      have G1 := ak hg1
      have G2 := ak hg2
      obtain ⟨n, hn⟩ : ∃ n, n = l.length := ⟨_, rfl⟩
      have pz : 0 ≤ x5 := by omega
      have qz : x5 < (n : Int) := by omega
      have HM := ak hk
      obtain ⟨g, o, cap, eo, gb, gl_, HG⟩ := Kd.Q_form HO.out (by rw [hll]; omega)
      rw [hll, ← hn] at eo
      have GB := ak gb
      subst eo
      have PZ := ak pz
      have QZ := ak qz
      have c3b0 : decide (x5 < (n : Int)) = true := decide_eq_true qz
      replace pz := eq_true pz
      replace qz := eq_true qz
      clear hx2 hx3 hx6 e1 e5 hk hl hl3 htn hg1 hg2 hll hn a0 a1 gb gl_ HG
      obtain ⟨c_, hcl, hM, hcc, hfr⟩ := Kd.Q_elem HO.out z37 x5 PZ.out QZ.out; rw [G1.out] at hM; obtain rfl := k37_openM hM; have hx_ : wr.cell? ⟨g, o + x5.toNat * 2, none⟩ = some (.int .i64 s.f0) := hcc 0 _ rfl; have hf_ : wr.frozen? ⟨g, o + x5.toNat * 2, none⟩ = false := hfr 0; have HS := Kd.Q_seg HO.out x5 PZ.out QZ.out (seg := [.int .i64 x1]) (j := 0) hcl hcc (show 0 + 1 ≤ 2 from by decide) (x' := (⟨x1, s.f1⟩ : S37)) (k37_mkM _ _ (fun _ => False) (⟨x1, s.f1⟩ : S37)) (fun _ hk => hk.elim); clear hcl hcc hfr hM
      go_wp2_with (first | ((with_reducible refine gate_store (t := 3) (p := 16) rfl ?_); refine store_event (t := 3) (p := 16) (v := ?vo_p) (w1 := (wr.setCell ⟨g, o + x5.toNat * 2, none⟩ (.int .i64 x1))) ?hg ?ho ?hn ?hr ?_; (case ho => rfl); (case hg => rfl); (case hn => rfl); (case hr => first | (go_simp; done) | (go_simp; rfl)); intro w1 hw; have hg : wr.grownBy w1 (some g) := (by rw [hw]; exact HS.2); have hp_ : Kd.Q k37 37 w1 w0.heap.size P0_ (.slice (some ⟨g, o, none⟩) n cap) (markP a pre ++ (⟨x1, s.f1⟩ : S37) :: suf) := (by rw [hw, ← G2.out]; exact HS.1); clear HS hx_ hf_; replace HK := ak (Kept.of_grown (S := P0_) hg kt (fun k_ e_ => .inl (HO.out.1 k_ e_))); replace HB := ak (by rw [hw]; exact below_set HB.out GB.out : Below w0.heap.size w0 w1); replace HO := ak hp_; clear hg hw hp_; obtain ⟨c_, hcl, hM, hcc, hfr⟩ := Kd.Q_elem HO.out z37 x5 PZ.out QZ.out; rw [G1.out] at hM; obtain rfl := k37_openM hM; have hx_ : w1.cell? ⟨g, o + x5.toNat * 2 + 1, none⟩ = some (.int .i64 s.f1) := hcc 1 _ rfl; have hf_ : w1.frozen? ⟨g, o + x5.toNat * 2 + 1, none⟩ = false := hfr 1; have HS := Kd.Q_seg HO.out x5 PZ.out QZ.out (seg := [.int .i64 x2]) (j := 1) hcl hcc (show 1 + 1 ≤ 2 from by decide) (x' := (⟨x1, x2⟩ : S37)) (k37_mkM _ _ (fun _ => False) (⟨x1, x2⟩ : S37)) (fun _ hk => hk.elim); clear hcl hcc hfr hM) | ((with_reducible refine gate_store (t := 3) (p := 23) rfl ?_); refine store_event (t := 3) (p := 23) (v := ?vo_q) (w1 := (w1.setCell ⟨g, o + x5.toNat * 2 + 1, none⟩ (.int .i64 x2))) ?hg ?ho ?hn ?hr ?_; (case ho => rfl); (case hg => rfl); (case hn => rfl); (case hr => first | (go_simp; done) | (go_simp; rfl)); intro w2 hw; have hg : w1.grownBy w2 (some g) := (by rw [hw]; exact HS.2); have hp_ : Kd.Q k37 37 w2 w0.heap.size P0_ (.slice (some ⟨g, o, none⟩) n cap) (markP a pre ++ (⟨x1, x2⟩ : S37) :: suf) := (by rw [hw, ← G2.out]; exact HS.1); clear HS hx_ hf_; replace HK := ak (Kept.of_grown (S := P0_) hg kt (fun k_ e_ => .inl (HO.out.1 k_ e_))); replace HB := ak (by rw [hw]; exact below_set HB.out GB.out : Below w0.heap.size w0 w2); replace HO := ak hp_; clear hg hw hp_))
      go_roundg suf.length
      case measure => have := HM.out; simp only [List.length_cons] at this; omega
      case rel => exact ⟨pre ++ [s], suf, x3, x6, rfl, rfl, ⟨⟨HN.out.2.2, HN.out.1, HN.out.2.1, Nat.le_refl _⟩⟩, ⟨by rw [← HL.out]; exact HO.out⟩, ⟨HK.out⟩, ⟨HB.out⟩⟩
set_option maxHeartbeats 8000000 in
set_option maxRecDepth 100000 in
theorem markSeriesQ_calls (P0_ : Nat → Prop) (u : Value) (l : List S81) (a : Int) (w0 w : World) (hB : Below w0.heap.size w0 w) (ho : Kd.S kq 81 w w0.heap.size P0_ u l) (h0 : 0 ≤ a) (h1 : a + mkN l ≤ 4611686018427387000) (hl : l.length ≤ 4611686018427387000) :
    Calls Try.prog 25 #[u, .int .i64 a] w fun e w' => e = .returned (.int .i64 (a + mkN l)) ∧ Kd.S kq 81 w' w0.heap.size (fun k_ => P0_ k_ ∨ w.heap.size ≤ k_) u (markS a l) ∧ Below w0.heap.size w0 w' ∧ Kept w w' P0_ := by
  have HO0 := ak (show Kd.S kq 81 w w0.heap.size (fun k_ => (P0_ k_ ∨ w.heap.size ≤ k_)) u l from Kd.S_mono ho (fun k_ hk => .inl hk))
  have HK := ak (Kept.refl w P0_)
  have HW0 := ak hB.size
  have HB := ak hB
  have AR := ak (show 0 ≤ a ∧ a + mkN l ≤ 4611686018427387000 ∧ l.length ≤ 4611686018427387000 from ⟨h0, h1, hl⟩)
  clear hB ho h0 h1 hl
  go_enter Try.func25, Try.ntmps25
  go_wp2
  go_loopg [1, 5] l.length (fun kn v1 v5 w' => ∃ (pre suf : List S81) (x1 x5 : Int), v1 = .int .i64 x1 ∧ v5 = .int .i64 x5 ∧ Aside0 (l = pre ++ suf ∧ x1 = a + mkN pre ∧ x5 = (pre.length : Int) ∧ suf.length ≤ kn) ∧ Aside0 (Kd.S kq 81 w' w0.heap.size (fun k_ => (P0_ k_ ∨ w.heap.size ≤ k_)) u (markS a pre ++ suf)) ∧ Aside0 (Kept w w' P0_) ∧ Aside0 (Below w0.heap.size w0 w'))
  case atStart => exact ⟨[], l, a, 0, rfl, rfl, ⟨rfl, by simp [mkN], rfl, Nat.le_refl _⟩, ⟨ks HO0⟩, ⟨kt⟩, ⟨bl⟩⟩
  case round =>
    obtain ⟨pre, suf, x1, x5, rfl, rfl, HA, HO, HK, HB⟩ := hrel
    cases suf with
    | nil =>
      obtain ⟨hl, e1, e5, _⟩ := HA.out
      rw [List.append_nil] at hl
      subst hl
      rw [List.append_nil] at HO
      obtain ⟨Ao, co, eo⟩ := Kd.S_slice HO.out
      have c3b0 : decide (x5 < ((markS a l).length : Int)) = false := decide_eq_false (by rw [markS_len, e5]; omega)
      subst eo
      clear e5
      go_wp2
      go_ret
      exact ⟨by first | rfl | (rw [e1]; rfl), ks HO, bl, kt⟩
    | cons s suf =>
      obtain ⟨hl, e1, e5, hk⟩ := HA.out
      obtain ⟨a0, a1, a2⟩ := AR.out
      have hn1 := mkN_nn pre
      have hn2 := mkN_nn suf
      have hn3 : mkN l = mkN pre + (2 + 2 * (s.f2.length : Int) + mkN suf) := by rw [hl, mkN_app]; rfl
      have hl3 : l.length = pre.length + (suf.length + 1) := by rw [hl, List.length_append, List.length_cons]
      obtain ⟨k1, hk1⟩ := rounds_of (markT_ev x1 (by omega))
      obtain ⟨x2, hx2⟩ : ∃ y, y = x1 + 1 := ⟨_, rfl⟩
      obtain ⟨x3, hx3⟩ : ∃ y, y = x2 + 1 := ⟨_, rfl⟩
      obtain ⟨x6, hx6⟩ : ∃ y, y = x5 + 1 := ⟨_, rfl⟩
      obtain ⟨k2, hk2⟩ := rounds_of (markT_ev x2 (by omega))
      have hk3 : 0 ≤ x3 ∧ x3 + 2 * (s.f2.length : Int) ≤ 4611686018427387000 := ⟨by omega, by omega⟩
      obtain ⟨x4, hx4⟩ : ∃ y, y = x3 + 2 * (s.f2.length : Int) := ⟨_, rfl⟩
      have HX4 := ak hx4.symm
      have w12 := wrap_eq x1 x2 hx2 (by omega) (by omega)
      have w23 := wrap_eq x2 x3 hx3 (by omega) (by omega)
      have w56 := wrap_eq x5 x6 hx6 (by omega) (by omega)
      have K1 := ak hk1
      have K2 := ak hk2
      have K3 := ak hk3
      have HN := ak (show x4 = a + mkN (pre ++ [s]) ∧ x6 = ((pre ++ [s]).length : Int) ∧ l = (pre ++ [s]) ++ suf from ⟨by rw [mkN_app]; simp only [mkN]; omega, by rw [List.length_append, List.length_singleton]; omega, by rw [hl]; simp⟩)
      have HL := ak (show markS a pre ++ ⟨markT x1, markT x2, markP x3 s.f2⟩ :: suf = markS a (pre ++ [s]) ++ suf from by rw [markS_app]; simp only [markS, List.append_assoc, List.singleton_append]; rw [← e1, ← hx2, show x1 + 2 = x3 from by omega])
      have htn : x5.toNat = (markS a pre).length := by rw [markS_len]; omega
      have hg1 : ∀ y : S81, (markS a pre ++ y :: suf).getD x5.toNat z81 = y := fun y => by rw [htn]; exact getD_mid _ _ _ _
      have hg2 : ∀ y z : S81, (markS a pre ++ y :: suf).set x5.toNat z = markS a pre ++ z :: suf := fun y z => by rw [htn]; exact set_mid _ _ _ _
      have hll : ∀ y : S81, (markS a pre ++ y :: suf).length = l.length := fun y => by rw [List.length_append, List.length_cons, markS_len, hl3]
      have G1 := ak hg1
      have G2 := ak hg2
      obtain ⟨n, hn⟩ : ∃ n, n = l.length := ⟨_, rfl⟩
      have GL := ak (show ∀ y : S81, (markS a pre ++ y :: suf).length = n from fun y => (hll y).trans hn.symm)
      have pz : 0 ≤ x5 := by omega
      have qz : x5 < (n : Int) := by omega
      have HM := ak hk
      obtain ⟨g, cap, eo, gb, gl_, cl, HG⟩ := Kd.S_form HO.out (by rw [hll]; omega)
      rw [hll, ← hn] at eo
      have GB := ak gb
      subst eo
      have PZ := ak pz
      have QZ := ak qz
      have c3b0 : decide (x5 < (n : Int)) = true := decide_eq_true qz
      replace pz := eq_true pz
      replace qz := eq_true qz
      clear hk1 hk2 hk3 hx4 hx2 hx3 hx6 e1 e5 hk hl hl3 hn1 hn2 hn3 htn hg1 hg2 hll hn a0 a1 a2 gb gl_ cl HG
      go_wp2_with (first | ((with_reducible refine gate_dst (N := 15) rfl ?_); refine gl (some 15) Try.func82 #[.int .i64 x1] ?_; (refine (laws_markText.calls _ x1 (markT x1) _ K1.out).mono ?_); rintro e w1 ⟨rfl, hb⟩; refine ⟨_, rfl, ?_⟩; replace HO := ak (Kd.S_below (ks HO) hb); replace HK := ak (Kept.below (S := P0_) kt hb); replace HB := ak (below_step bl hb); clear hb; obtain ⟨oki, c_, hcl, hM, hcc, hfr, hoki, hH⟩ := Kd.S_elem HO.out z81 x5 PZ.out QZ.out; rw [G1.out] at hM; obtain ⟨v2, rfl, hR⟩ := kq_openM hM; have hx_ : w1.cell? ⟨g, x5.toNat * 3, none⟩ = some (.string s.f0) := hcc 0 _ rfl; have hf_ : w1.frozen? ⟨g, x5.toNat * 3, none⟩ = false := hfr 0; have HS := Kd.S_seg (okg := fun _ => False) (Kd.H_mono hH (fun k hk => ⟨hk, fun h => h⟩)) PZ.out QZ.out (seg := [.string (markT x1)]) (j := 0) (show 0 + 1 ≤ 3 from by decide) (x' := (⟨markT x1, s.f1, s.f2⟩ : S81)) (kq_mkM _ _ _ (⟨markT x1, s.f1, s.f2⟩ : S81) hR) (fun k hk => .inl hk) (fun k hk => hk.elim); clear hcl hcc hfr hM hH hoki hR) | ((with_reducible refine gate_store (t := 9) (p := 17) rfl ?_); refine store_event (t := 9) (p := 17) (v := ?vo_w) (w1 := (w1.setCell ⟨g, x5.toNat * 3, none⟩ (.string (markT x1)))) ?hg ?ho ?hn ?hr ?_; (case ho => rfl); (case hg => rfl); (case hn => rfl); (case hr => first | (go_simp; done) | (go_simp; rfl)); intro w2 hw; have hg : w1.grownBy w2 (some g) := (by rw [hw]; exact HS.2); have hp_ : Kd.S kq 81 w2 w0.heap.size (fun k_ => (P0_ k_ ∨ w.heap.size ≤ k_)) (.slice (some ⟨g, 0, none⟩) n cap) (markS a pre ++ (⟨markT x1, s.f1, s.f2⟩ : S81) :: suf) := (by rw [hw, ← G2.out]; exact HS.1); clear HS hx_ hf_; replace HK := ak (Kept.of_grown (S := P0_) hg kt (fun k_ e_ => (Kd.S_R HO.out).1 k_ e_)); replace HB := ak (by rw [hw]; exact below_set HB.out GB.out : Below w0.heap.size w0 w2); replace HO := ak hp_; clear hg hw hp_) | ((with_reducible refine gate_dst (N := 23) rfl ?_); refine gl (some 23) Try.func82 #[.int .i64 x2] ?_; (refine (laws_markText.calls _ x2 (markT x2) _ K2.out).mono ?_); rintro e w3 ⟨rfl, hb⟩; refine ⟨_, rfl, ?_⟩; replace HO := ak (Kd.S_below (ks HO) hb); replace HK := ak (Kept.below (S := P0_) kt hb); replace HB := ak (below_step bl hb); clear hb; obtain ⟨oki, c_, hcl, hM, hcc, hfr, hoki, hH⟩ := Kd.S_elem HO.out z81 x5 PZ.out QZ.out; rw [G1.out] at hM; obtain ⟨v2, rfl, hR⟩ := kq_openM hM; have hx_ : w3.cell? ⟨g, x5.toNat * 3 + 1, none⟩ = some (.string s.f1) := hcc 1 _ rfl; have hf_ : w3.frozen? ⟨g, x5.toNat * 3 + 1, none⟩ = false := hfr 1; have HS := Kd.S_seg (okg := fun _ => False) (Kd.H_mono hH (fun k hk => ⟨hk, fun h => h⟩)) PZ.out QZ.out (seg := [.string (markT x2)]) (j := 1) (show 1 + 1 ≤ 3 from by decide) (x' := (⟨markT x1, markT x2, s.f2⟩ : S81)) (kq_mkM _ _ _ (⟨markT x1, markT x2, s.f2⟩ : S81) hR) (fun k hk => .inl hk) (fun k hk => hk.elim); clear hcl hcc hfr hM hH hoki hR) | ((with_reducible refine gate_store (t := 9) (p := 25) rfl ?_); refine store_event (t := 9) (p := 25) (v := ?vo_x) (w1 := (w3.setCell ⟨g, x5.toNat * 3 + 1, none⟩ (.string (markT x2)))) ?hg ?ho ?hn ?hr ?_; (case ho => rfl); (case hg => rfl); (case hn => rfl); (case hr => first | (go_simp; done) | (go_simp; rfl)); intro w4 hw; have hg : w3.grownBy w4 (some g) := (by rw [hw]; exact HS.2); have hp_ : Kd.S kq 81 w4 w0.heap.size (fun k_ => (P0_ k_ ∨ w.heap.size ≤ k_)) (.slice (some ⟨g, 0, none⟩) n cap) (markS a pre ++ (⟨markT x1, markT x2, s.f2⟩ : S81) :: suf) := (by rw [hw, ← G2.out]; exact HS.1); clear HS hx_ hf_; replace HK := ak (Kept.of_grown (S := P0_) hg kt (fun k_ e_ => (Kd.S_R HO.out).1 k_ e_)); replace HB := ak (by rw [hw]; exact below_set HB.out GB.out : Below w0.heap.size w0 w4); replace HO := ak hp_; clear hg hw hp_; obtain ⟨oki, c_, hcl, hM, hcc, hoki, hH⟩ := Kd.S_lend HO.out z81 x5 PZ.out QZ.out; rw [G1.out] at hM; obtain ⟨v2, rfl, hR⟩ := kq_openM hM; obtain ⟨A2, c2, ev, _⟩ := Kd.Q_slice hR; subst ev; have hx2 : w4.cell? ⟨g, x5.toNat * 3 + 2, none⟩ = some (.slice A2 s.f2.length c2) := hcc 2 _ rfl; have HR2 := ak hR; have HH2 := ak hH; have HI2 := ak hoki; clear hcl hcc hM hR hH hoki) | ((with_reducible refine gate_dst (N := 34) rfl ?_); refine gl (some 34) Try.func83 #[.slice A2 s.f2.length c2, .int .i64 x3] ?_; (refine (markPointsQ oki _ s.f2 x3 w0 _ ?s1 ?s2 K3.out.1 K3.out.2).mono ?_); (case s1 => exact bl); (case s2 => exact HR2.out); rintro e w5 ⟨rfl, hR5, hb5, hk5⟩; rw [HX4.out]; refine ⟨_, rfl, ?_⟩; have hS5 := Kd.H_back (Kd.H_kept (Kd.H_widen HH2.out) hk5 (fun k hk hn hs => hn (.inl hs))) (kq_mkM _ _ _ (⟨markT x1, markT x2, markP x3 s.f2⟩ : S81) hR5) (fun k hk => .inl hk); rw [G2.out] at hS5; replace HK := ak (Kept.then_ (S := P0_) kt hk5 (fun k hs => (HI2.out k hs).1)); replace HB := ak hb5; replace HO := ak hS5; clear hS5 hR5 hb5 hk5 HR2 HH2 HI2 hx2))
      go_roundg suf.length
      case measure => have := HM.out; simp only [List.length_cons] at this; omega
      case rel => exact ⟨pre ++ [s], suf, x4, x6, rfl, rfl, ⟨⟨HN.out.2.2, HN.out.1, HN.out.2.1, Nat.le_refl _⟩⟩, ⟨by rw [← HL.out]; exact ks HO⟩, ⟨kt⟩, ⟨bl⟩⟩
end Go.Proofs.Ytplekidnlofioaa.Q
namespace Go.Proofs.Ytplekidnlofioaa.Q
open Go.RowKit Go.Proofs.YtplekidnlofioaaW.PrintWords Go.Proofs.YtplekidnlofioaaW.PrintLast Go.Proofs.YtplekidnlofioaaW.PrintMore
attribute [local go_sem] max2_int min2_int max_two min_two max_three min_three max_four min_four   -- for this text's walks alone
set_option linter.unusedVariables false
set_option linter.unusedSimpArgs false

/-! ### laws_szSample: function 42 -/
def laws_szSample.f (a0_0 : ByteArray) (a0_1 : ByteArray) (a0_2 : Int) (a0_3 : Int) (a1 : Int) : Option (Int) := if (wrap64 (a1 - (a0_0.size : Int))) < 0 then (some (-1)) else (if (wrap64 ((wrap64 (a1 - (a0_0.size : Int))) - (a0_1.size : Int))) < 0 then (some (-1)) else (some (wrap64 ((wrap64 (a1 - (a0_0.size : Int))) - (a0_1.size : Int)))))
set_option maxHeartbeats 8000000 in
set_option maxRecDepth 100000 in
theorem laws_szSample.calls (a0_0 : ByteArray) (a0_1 : ByteArray) (a0_2 : Int) (a0_3 : Int) (a1 : Int) (r : Int) (w : World) (h : laws_szSample.f a0_0 a0_1 a0_2 a0_3 a1 = some r) :
 Calls Try.prog 42 #[.agg #[.string a0_0, .string a0_1, .int .i64 a0_2, .int .i64 a0_3], .int .i64 a1] w fun e w' => e = .returned (.int .i64 r) ∧ Below w.heap.size w w' := by
 have hu68 := Try.underlying68
 have HB := Aside0.mk (Below.refl w.heap.size w)
 have H : (if (wrap64 (a1 - (a0_0.size : Int))) < 0 then (some (-1)) else (if (wrap64 ((wrap64 (a1 - (a0_0.size : Int))) - (a0_1.size : Int))) < 0 then (some (-1)) else (some (wrap64 ((wrap64 (a1 - (a0_0.size : Int))) - (a0_1.size : Int)))))) = some r := h
 clear h
 by_cases c3 : (wrap64 (a1 - (a0_0.size : Int))) < 0
 · rw [if_pos c3] at H
   have c3b0 : decide ((wrap64 (a1 - (a0_0.size : Int))) < 0) = true := decide_eq_true c3
   clear c3
   obtain rfl := Option.some.inj H
   go_enter Try.func42, Try.ntmps42
   go_wp2_with (first | ((with_reducible refine gate_dst (N := 2) rfl ?_); refine bx 2 #[.string a0_0, .string a0_1, .int .i64 a0_2, .int .i64 a0_3] 68 ?_; intro gb514 hg w4 hbox hb; have BK514 := ak hbox; have GW514 := gs hg bl; have GE514 := gs hg bl; replace HB := ak (below_step bl hb); clear hb hbox hg; obtain ⟨hcz5_0, hcz5_1, hcz5_2, hcz5_3, hfz5_0, hfz5_1, hfz5_2, hfz5_3⟩ := cz4 BK514))
   go_ret
   exact ⟨ew, bl1 GE514⟩
 · rw [if_neg c3] at H
   have c3b0 : decide ((wrap64 (a1 - (a0_0.size : Int))) < 0) = false := decide_eq_false c3
   clear c3
   by_cases c6 : (wrap64 ((wrap64 (a1 - (a0_0.size : Int))) - (a0_1.size : Int))) < 0
   · rw [if_pos c6] at H
     have c6b0 : decide ((wrap64 ((wrap64 (a1 - (a0_0.size : Int))) - (a0_1.size : Int))) < 0) = true := decide_eq_true c6
     clear c6
     obtain rfl := Option.some.inj H
     go_enter Try.func42, Try.ntmps42
     go_wp2_with (first | ((with_reducible refine gate_dst (N := 2) rfl ?_); refine bx 2 #[.string a0_0, .string a0_1, .int .i64 a0_2, .int .i64 a0_3] 68 ?_; intro gb514 hg w7 hbox hb; have BK514 := ak hbox; have GW514 := gs hg bl; have GE514 := gs hg bl; replace HB := ak (below_step bl hb); clear hb hbox hg; obtain ⟨hcz8_0, hcz8_1, hcz8_2, hcz8_3, hfz8_0, hfz8_1, hfz8_2, hfz8_3⟩ := cz4 BK514))
     go_ret
     exact ⟨ew, bl1 GE514⟩
   · rw [if_neg c6] at H
     have c6b0 : decide ((wrap64 ((wrap64 (a1 - (a0_0.size : Int))) - (a0_1.size : Int))) < 0) = false := decide_eq_false c6
     clear c6
     obtain rfl := Option.some.inj H
     go_enter Try.func42, Try.ntmps42
     go_wp2_with (first | ((with_reducible refine gate_dst (N := 2) rfl ?_); refine bx 2 #[.string a0_0, .string a0_1, .int .i64 a0_2, .int .i64 a0_3] 68 ?_; intro gb514 hg w9 hbox hb; have BK514 := ak hbox; have GW514 := gs hg bl; have GE514 := gs hg bl; replace HB := ak (below_step bl hb); clear hb hbox hg; obtain ⟨hcz10_0, hcz10_1, hcz10_2, hcz10_3, hfz10_0, hfz10_1, hfz10_2, hfz10_3⟩ := cz4 BK514))
     go_ret
     exact ⟨ew, bl1 GE514⟩

end Go.Proofs.Ytplekidnlofioaa.Q
namespace Go.Proofs.Ytplekidnlofioaa.Q
open Go.RowKit Go.Proofs.YtplekidnlofioaaW.PrintWords Go.Proofs.YtplekidnlofioaaW.PrintLast Go.Proofs.YtplekidnlofioaaW.PrintMore
attribute [local go_sem] max2_int min2_int max_two min_two max_three min_three max_four min_four   -- for this text's walks alone
set_option linter.unusedVariables false
set_option linter.unusedSimpArgs false

/-! ### laws_toSample: function 44 -/
def laws_toSample.f (a0_0 : ByteArray) (a0_1 : ByteArray) (a0_2 : Int) (a0_3 : Int) : Option (ByteArray × ByteArray × Int × Int) := some (a0_0, a0_1, a0_2, a0_3)
set_option maxHeartbeats 8000000 in
set_option maxRecDepth 100000 in
theorem laws_toSample.calls (a0_0 : ByteArray) (a0_1 : ByteArray) (a0_2 : Int) (a0_3 : Int) (r1 : ByteArray) (r2 : ByteArray) (r3 : Int) (r4 : Int) (w : World) (h : laws_toSample.f a0_0 a0_1 a0_2 a0_3 = some (r1, r2, r3, r4)) :
 Calls Try.prog 44 #[.agg #[.string a0_0, .string a0_1, .int .i64 a0_2, .int .i64 a0_3]] w fun e w' => e = .returned (.agg #[.string r1, .string r2, .int .i64 r3, .int .i64 r4]) ∧ Below w.heap.size w w' := by
 have hu68 := Try.underlying68
 have hu30 := Try.underlying30
 have HB := Aside0.mk (Below.refl w.heap.size w)
 have H : (some (a0_0, a0_1, a0_2, a0_3)) = some (r1, r2, r3, r4) := h
 clear h
 simp only [Option.some.injEq, Prod.mk.injEq] at H
 obtain ⟨rfl, rfl, rfl, rfl⟩ := H
 go_enter Try.func44, Try.ntmps44
 go_wp2_with (first | ((with_reducible refine gate_dst (N := 1) rfl ?_); refine bx 1 #[.string a0_0, .string a0_1, .int .i64 a0_2, .int .i64 a0_3] 68 ?_; intro gb587 hg w2 hbox hb; have BK587 := ak hbox; have GW587 := gs hg bl; have GE587 := gs hg bl; replace HB := ak (below_step bl hb); clear hb hbox hg) | ((with_reducible refine gate_dst (N := 2) rfl ?_); refine bx 2 #[.string (⟨#[]⟩ : ByteArray), .string (⟨#[]⟩ : ByteArray), .int .i64 0, .int .i64 0] 30 ?_; intro gb588 hg w3 hbox hb; have BK588 := ak hbox; have GW588 := gs hg (bl1 GE587); have GE588 := gs hg (bl1 GE587); replace HB := ak (below_step (bl1 GE587) hb); have NB587_588 := nl hg BK587; have NB588_587 := ng hg BK587; replace BK587 := bb BK587 hb; clear hb hbox hg) | ((with_reducible refine gate_dst (N := 3) rfl ?_); refine bx 3 #[.string (⟨#[]⟩ : ByteArray), .string (⟨#[]⟩ : ByteArray), .int .i64 0, .int .i64 0] 30 ?_; intro gb589 hg w4 hbox hb; have BK589 := ak hbox; have GW589 := gs hg (bl2 GE587 GE588); have GE589 := gs hg (bl2 GE587 GE588); replace HB := ak (below_step (bl2 GE587 GE588) hb); have NB587_589 := nl hg BK587; have NB589_587 := ng hg BK587; replace BK587 := bb BK587 hb; have NB588_589 := nl hg BK588; have NB589_588 := ng hg BK588; replace BK588 := bb BK588 hb; clear hb hbox hg; have hnb5 := NB587_588.out; have hnc5 := NB588_587.out; have hnb6 := NB587_589.out; have hnc6 := NB589_587.out; obtain ⟨hcz7_0, hcz7_1, hcz7_2, hcz7_3, hfz7_0, hfz7_1, hfz7_2, hfz7_3⟩ := cz4 BK587; have hnb8 := NB589_588.out; have hnc8 := NB588_589.out; obtain ⟨hcz9_0, hcz9_1, hcz9_2, hcz9_3, hfz9_0, hfz9_1, hfz9_2, hfz9_3⟩ := cz4 BK589; obtain ⟨hcz10_0, hcz10_1, hcz10_2, hcz10_3, hfz10_0, hfz10_1, hfz10_2, hfz10_3⟩ := cz4 BK588))
 refine bodyPost_ret (results_cell_row rfl _ _ gb588 30 #[.string a0_0, .string a0_1, .int .i64 a0_2, .int .i64 a0_3] (0, 0) _ rfl (by (with_reducible repeat (first | refine blk_drewN ?_ _ | refine blk_drew ?_ | refine blk_alloc ?_ _)); refine blk_put (cs := #[.string a0_0, .string a0_1, .int .i64 a0_2, .int .i64 0]) ?_ 3 _ rfl; (with_reducible repeat (first | refine blk_drewN ?_ _ | refine blk_drew ?_ | refine blk_alloc ?_ _)); refine blk_put (cs := #[.string a0_0, .string a0_1, .int .i64 0, .int .i64 0]) ?_ 2 _ rfl; (with_reducible repeat (first | refine blk_drewN ?_ _ | refine blk_drew ?_ | refine blk_alloc ?_ _)); refine blk_put (cs := #[.string a0_0, .string (⟨#[]⟩ : ByteArray), .int .i64 0, .int .i64 0]) ?_ 1 _ rfl; (with_reducible repeat (first | refine blk_drewN ?_ _ | refine blk_drew ?_ | refine blk_alloc ?_ _)); refine blk_put (cs := #[.string (⟨#[]⟩ : ByteArray), .string (⟨#[]⟩ : ByteArray), .int .i64 0, .int .i64 0]) ?_ 0 _ rfl; (with_reducible repeat (first | refine blk_drewN ?_ _ | refine blk_drew ?_ | refine blk_alloc ?_ _)); refine blk_far ?_ NB588_589.out _; (with_reducible repeat (first | refine blk_drewN ?_ _ | refine blk_drew ?_ | refine blk_alloc ?_ _)); refine blk_far ?_ NB588_589.out _; (with_reducible repeat (first | refine blk_drewN ?_ _ | refine blk_drew ?_ | refine blk_alloc ?_ _)); refine blk_far ?_ NB588_589.out _; (with_reducible repeat (first | refine blk_drewN ?_ _ | refine blk_drew ?_ | refine blk_alloc ?_ _)); refine blk_far ?_ NB588_589.out _; (with_reducible repeat (first | refine blk_drewN ?_ _ | refine blk_drew ?_ | refine blk_alloc ?_ _)); exact BK588.out) Try.underlying30 rfl (by kernel_rfl)) rfl ?_
 exact ⟨ew, bl3 GE587 GE588 GE589⟩

end Go.Proofs.Ytplekidnlofioaa.Q
namespace Go.Proofs.Ytplekidnlofioaa.Q
open Go.Proofs.Ytplekidnlofioaa.Opens Go.RowKit Go.Proofs.YtplekidnlofioaaW.PrintWords Go.Proofs.YtplekidnlofioaaW.PrintLast
set_option linter.unusedVariables false
set_option linter.unusedSimpArgs false
theorem pushP_len (ps : List S37) (p : S37) : (pushP ps p).length ≤ ps.length + 1 := by
  unfold pushP
  simp only [List.length_drop, List.length_append, List.length_cons, List.length_nil]
  omega
theorem putV_case (l : List S81) (a b : ByteArray) (v t : Int) : (putV l a b v t).1 = l ∨
    (∃ s pre r, l = pre ++ s :: r ∧ (putV l a b v t).1 = pre ++ ⟨s.f0, s.f1, pushP s.f2 ⟨t, v⟩⟩ :: r) ∨ (∃ pre r, l = pre ++ r ∧ (putV l a b v t).1 = pre ++ ⟨a, b, [⟨t, v⟩]⟩ :: r) := by
  have e := List.takeWhile_append_dropWhile (p := ltS a b) (l := l)
  unfold putV
  split
  · split
    · rename_i s r h
      rw [h] at e
      split
      · split
        · exact .inl rfl
        · exact .inr (.inl ⟨s, _, r, e.symm, rfl⟩)
      · split
        · exact .inl rfl
        · exact .inr (.inr ⟨_, s :: r, e.symm, rfl⟩)
    · rename_i h
      rw [h] at e
      split
      · exact .inl rfl
      · exact .inr (.inr ⟨_, [], e.symm, rfl⟩)
  · exact .inl rfl
theorem putV_len (l : List S81) (a b : ByteArray) (v t : Int) : (putV l a b v t).1.length ≤ l.length + 1 := by
  rcases putV_case l a b v t with h | ⟨s, pre, r, hl, h⟩ | ⟨pre, r, hl, h⟩ <;> rw [h]
  · omega
  · rw [hl]; simp only [List.length_append, List.length_cons]; omega
  · rw [hl]; simp only [List.length_append, List.length_cons]; omega
theorem putV_pts {n : Nat} (l : List S81) (a b : ByteArray) (v t : Int) (hl : ∀ s ∈ l, s.f2.length ≤ n) : ∀ s ∈ (putV l a b v t).1, s.f2.length ≤ n + 1 := by
  intro x hx
  rcases putV_case l a b v t with h | ⟨s, pre, r, e, h⟩ | ⟨pre, r, e, h⟩ <;> rw [h] at hx
  · have := hl x hx; omega
  · rcases List.mem_append.1 hx with h1 | h1
    · have := hl x (by rw [e]; exact List.mem_append.2 (.inl h1)); omega
    · rcases List.mem_cons.1 h1 with rfl | h2
      · have := hl s (by rw [e]; simp)
        have := pushP_len s.f2 ⟨t, v⟩
        show (pushP s.f2 ⟨t, v⟩).length ≤ _
        omega
      · have := hl x (by rw [e]; exact List.mem_append.2 (.inr (List.mem_cons.2 (.inr h2)))); omega
  · rcases List.mem_append.1 hx with h1 | h1
    · have := hl x (by rw [e]; exact List.mem_append.2 (.inl h1)); omega
    · rcases List.mem_cons.1 h1 with rfl | h2
      · show ([⟨t, v⟩] : List S37).length ≤ _
        simp
      · have := hl x (by rw [e]; exact List.mem_append.2 (.inr h2)); omega
theorem putV_mkN (l : List S81) (a b : ByteArray) (v t : Int) : mkN (putV l a b v t).1 ≤ mkN l + 4 := by
  rcases putV_case l a b v t with h | ⟨s, pre, r, e, h⟩ | ⟨pre, r, e, h⟩ <;> rw [h]
  · omega
  · have := pushP_len s.f2 ⟨t, v⟩
    rw [e, mkN_app, mkN_app]; simp only [mkN]; omega
  · rw [e, mkN_app, mkN_app]; simp only [mkN, List.length_cons, List.length_nil]; omega
def bigM (x : S68) : Prop := x.f0.size ≤ 140737488351232 ∧ x.f1.size ≤ 140737488351232
def wM (x : S68) : Int := x.f0.size + x.f1.size
theorem szSample_v (s : S68) (h : bigM s) (a : Int) (h0 : 0 ≤ a) (h1 : a ≤ 1048576) : laws_szSample.f s.f0 s.f1 s.f2 s.f3 a = some (cutN (a - wM s)) := by
  obtain ⟨h2, h3⟩ := h
  unfold laws_szSample.f wM
  rw [wrap_small (a - (s.f0.size : Int)) (by omega) (by omega)]
  by_cases c : a - (s.f0.size : Int) < 0
  · rw [if_pos c, cutN_neg (by omega)]
  · rw [if_neg c, wrap_small (a - (s.f0.size : Int) - (s.f1.size : Int)) (by omega) (by omega)]
    by_cases c2 : a - (s.f0.size : Int) - (s.f1.size : Int) < 0
    · rw [if_pos c2, cutN_neg (by omega)]
    · rw [if_neg c2, cutN_nn (by omega)]
      congr 1
      omega
theorem big_ofM {x : S68} (h : ok68 x) : bigM x := by
  have e : reachBytes = 140737488351232 := rfl
  obtain ⟨h1, h2, _⟩ := h
  unfold okS at h1 h2
  rw [e] at h1 h2
  exact ⟨h1, h2⟩
theorem ivq_read {e b lo hi n c : Nat} {W : World} {A : Option Addr} {l : List S81} (h : IvS kq e b lo hi W (.slice A n c) l) : Kd.C k81 W A l.length l := kq_C (ivS_read h)
theorem ivF_of {w W' : World} {A : Option Addr} {l : List S81} (h : Kd.F k81 W' (fun k => w.heap.size ≤ k) A l.length l) : IvF k81 w.heap.size W'.heap.size W' A l := Kd.F_bound h
end Go.Proofs.Ytplekidnlofioaa.Q
namespace Go.Proofs.Ytplekidnlofioaa.Q
open Go.Proofs.Ytplekidnlofioaa.Opens Go.RowKit Go.Proofs.YtplekidnlofioaaW.PrintWords Go.Proofs.YtplekidnlofioaaW.PrintLast Go.Proofs.YtplekidnlofioaaW.PrintMore
attribute [local go_sem] max2_int min2_int max_two min_two max_three min_three max_four min_four
set_option linter.unusedVariables false
set_option linter.unusedSimpArgs false
theorem put_tab8 : rtab .any (opsOf Try.f7 8) = (true, [([], []), ([0], [0]), ([], []), ([2, 1], [2]), ([1, 3, 3], [1, 3]), ([4], [4]), ([5], [5]), ([5], [5]), ([6, 4, 0, 1, 2, 3, 4, 5, 6], [6]), ([7, 8, 0, 1, 2, 3, 4, 5, 6, 7, 8], [7])]) := by kernel_rfl
theorem put_bits8 : waitsOk ((true, [([], []), ([0], [0]), ([], []), ([2, 1], [2]), ([1, 3, 3], [1, 3]), ([4], [4]), ([5], [5]), ([5], [5]), ([6, 4, 0, 1, 2, 3, 4, 5, 6], [6]), ([7, 8, 0, 1, 2, 3, 4, 5, 6, 7, 8], [7])]) : Bool × List (List Nat × List Nat)).2 [0, 1, 0, 7, 15, 31, 63, 63, 127, 511] = true := by kernel_rfl
theorem put_tab27 : rtab .any (opsOf Try.f7 27) = (true, [([], []), ([0], [0]), ([], []), ([2, 1], [2]), ([1, 3, 3], [1, 3]), ([4], [4]), ([5], [5]), ([5], [5]), ([6, 4, 0, 1, 2, 3, 4, 5, 6], [6]), ([7, 8, 0, 1, 2, 3, 4, 5, 6, 7, 8], [7])]) := by kernel_rfl
theorem put_bits27 : waitsOk ((true, [([], []), ([0], [0]), ([], []), ([2, 1], [2]), ([1, 3, 3], [1, 3]), ([4], [4]), ([5], [5]), ([5], [5]), ([6, 4, 0, 1, 2, 3, 4, 5, 6], [6]), ([7, 8, 0, 1, 2, 3, 4, 5, 6, 7, 8], [7])]) : Bool × List (List Nat × List Nat)).2 [0, 1, 0, 7, 15, 31, 63, 63, 127, 511] = true := by kernel_rfl
set_option maxHeartbeats 16000000 in
set_option maxRecDepth 100000 in
theorem putSample_true (A0 : Option Addr) (c0 : Nat) (l : List S137) (x : S68) (w : World) (hr0 : Kd.C k137 w A0 l.length l) (hc0 : l.length ≤ c0) (hok : okL 56 ok137 l) (hokM : ok68 x) :
    Calls Try.prog 7 #[.slice A0 l.length c0, .agg #[.string x.f0, .string x.f1, .int .i64 x.f2, .int .i64 x.f3]] w fun e w' => e = .returned (.bool true) ∧ Below w.heap.size w w' := by
  obtain ⟨hb1, hb2⟩ := big_ofS hok
  have hbm := big_ofM hokM
  have HR0 := ak hr0
  have HC0 := ak hc0
  have HB := ak (Below.refl w.heap.size w)
  obtain ⟨kz, hkz⟩ := rounds_of (szSeriesS_ev l hb1 hb2 1048576 (by decide) (by decide))
  by_cases d : (1048576 : Int) - l.length - wL l < 0
  · rw [cutN_neg d] at hkz
    have KZ := ak hkz
    clear hkz d hb1 hb2 hr0 hc0 hok hokM hbm
    go_enter Try.func7, Try.ntmps7
    go_wp2_with (first | ((with_reducible refine gate_dst (N := 3) rfl ?_); refine bx 3 #[.string x.f0, .string x.f1, .int .i64 x.f2, .int .i64 x.f3] 68 ?_; intro gb hg w1 hbox hb; have BKb := ak hbox; have LTb := ak (blk_lt hbox); have SZ0 := ak hb.size; replace HB := ak (below_step HB.out hb); clear hb hbox hg) | ((with_reducible refine gate_dst (N := 18) rfl ?_); refine gl (some 18) Try.func21 #[.slice A0 l.length c0, .int .i64 1048576] ?_; (refine (laws_szSeriesS.calls _ _ _ l 1048576 (-1) _ ?s0 HC0.out KZ.out).mono ?_); (case s0 => exact cb HR0); rintro e w2 ⟨rfl, hb⟩; refine ⟨_, rfl, ?_⟩; replace BKb := ak (blk_below BKb.out hb); have SZ1 := ak hb.size; replace HB := ak (below_step HB.out hb); clear hb; obtain ⟨hcz_0, hcz_1, hcz_2, hcz_3, hfz_0, hfz_1, hfz_2, hfz_3⟩ := cz4 BKb))
    go_ret
    exact ⟨rfl, HB.out⟩
  rw [cutN_nn d] at hkz
  have hn := wL_nn l
  obtain ⟨r1, hr1⟩ : ∃ r, r = (1048576 : Int) - l.length - wL l := ⟨_, rfl⟩
  rw [← hr1] at hkz d
  have e0 : decide (r1 < 0) = false := decide_eq_false d
  have KZ := ak hkz
  have hky := szSample_v x hbm r1 (by omega) (by omega)
  by_cases d2 : r1 - wM x < 0
  · rw [cutN_neg d2] at hky
    have KY := ak hky
    clear hkz hky d d2 hn hr1 hb1 hb2 hr0 hc0 hok hokM hbm
    go_enter Try.func7, Try.ntmps7
    go_wp2_with (first | ((with_reducible refine gate_dst (N := 3) rfl ?_); refine bx 3 #[.string x.f0, .string x.f1, .int .i64 x.f2, .int .i64 x.f3] 68 ?_; intro gb hg w1 hbox hb; have BKb := ak hbox; have LTb := ak (blk_lt hbox); have SZ0 := ak hb.size; replace HB := ak (below_step HB.out hb); clear hb hbox hg) | ((with_reducible refine gate_dst (N := 18) rfl ?_); refine gl (some 18) Try.func21 #[.slice A0 l.length c0, .int .i64 1048576] ?_; (refine (laws_szSeriesS.calls _ _ _ l 1048576 r1 _ ?s0 HC0.out KZ.out).mono ?_); (case s0 => exact cb HR0); rintro e w2 ⟨rfl, hb⟩; refine ⟨_, rfl, ?_⟩; replace BKb := ak (blk_below BKb.out hb); have SZ1 := ak hb.size; replace HB := ak (below_step HB.out hb); clear hb; obtain ⟨hcz_0, hcz_1, hcz_2, hcz_3, hfz_0, hfz_1, hfz_2, hfz_3⟩ := cz4 BKb) | ((with_reducible refine gate_dst (N := 23) rfl ?_); refine gl (some 23) Try.func42 #[.agg #[.string x.f0, .string x.f1, .int .i64 x.f2, .int .i64 x.f3], .int .i64 r1] ?_; (refine (laws_szSample.calls x.f0 x.f1 x.f2 x.f3 r1 (-1) _ KY.out).mono ?_); rintro e w3 ⟨rfl, hb⟩; refine ⟨_, rfl, ?_⟩; replace BKb := ak (blk_below BKb.out hb); have SZ2 := ak hb.size; replace HB := ak (below_step HB.out hb); clear hb))
    go_ret
    exact ⟨rfl, HB.out⟩
  rw [cutN_nn d2] at hky
  obtain ⟨r2, hr2⟩ : ∃ r, r = r1 - wM x := ⟨_, rfl⟩
  rw [← hr2] at hky d2
  have e5 : decide (r2 < 0) = false := decide_eq_false d2
  have KY := ak hky
  have hxl : l.length ≤ 1048576 := by unfold wM at hr2; omega
  have hpl : ∀ s ∈ l, s.f2.length ≤ 1048576 := fun s hs => by have := wL_mem2 hs; unfold wM at hr2; omega
  have hwl : ∀ s ∈ l, wS s ≤ 1048576 := fun s hs => by have := wL_mem hs; unfold wM at hr2; omega
  have hm0 : x.f0.size < 4611686018427387904 := by unfold wM at hr2; omega
  have hm1 : x.f1.size < 4611686018427387904 := by unfold wM at hr2; omega
  obtain ⟨X, hX⟩ : ∃ X, X = l.map toS := ⟨_, rfl⟩
  have hX1 : X.length ≤ 1048576 := by rw [hX, List.length_map]; exact hxl
  have hX2 : ∀ s ∈ X, s.f2.length ≤ 1048576 := fun s hs => by
    rw [hX] at hs
    obtain ⟨y, hy, rfl⟩ := List.mem_map.1 hs
    show (y.f2.map toP).length ≤ _
    rw [List.length_map]
    exact hpl y hy
  have hX3 : ∀ s ∈ X, fitS s := by rw [hX]; exact fit_toS hwl
  have hX4 : mkN X ≤ 2 * l.length + 2 * wL l := by rw [hX]; exact mkN_toS l
  have hX5 := mkN_nn X
  have hT := toSeriesS_ev l hxl hpl
  rw [← hX] at hT
  obtain ⟨R, hR⟩ : ∃ R, R = (putV X x.f0 x.f1 x.f2 x.f3).1 := ⟨_, rfl⟩
  obtain ⟨cd, hcd⟩ : ∃ cd, cd = (putV X x.f0 x.f1 x.f2 x.f3).2 := ⟨_, rfl⟩
  have hRF : putV X x.f0 x.f1 x.f2 x.f3 = (R, cd) := by rw [hR, hcd]
  have hR1 : R.length ≤ 1048577 := by rw [hR]; have := putV_len X x.f0 x.f1 x.f2 x.f3; omega
  have hR2 : ∀ s ∈ R, s.f2.length ≤ 1048577 := by rw [hR]; exact putV_pts X x.f0 x.f1 x.f2 x.f3 hX2
  have hR3 : mkN R ≤ mkN X + 4 := by rw [hR]; exact putV_mkN X x.f0 x.f1 x.f2 x.f3
  have hR4 := mkN_nn R
  have hS : ∀ (A : Option Addr) (c : Nat) (w : World) (h1 : Kd.C k81 w A X.length X) (h2 : X.length ≤ c), Calls Try.prog 43 #[.slice A X.length c, .agg #[.string x.f0, .string x.f1, .int .i64 x.f2, .int .i64 x.f3]] w fun e w' => ∃ A c, e = .returned (.tuple #[.slice A R.length c, .int .i64 cd]) ∧ R.length ≤ c ∧ IvF k81 w.heap.size w'.heap.size w' A R ∧ Below w.heap.size w w' := fun A c w h1 h2 => by
    have h := spec_PutSample_calls A c X x.f0 x.f1 x.f2 x.f3 w h1 h2 hX1 hX2 hX3 hm0 hm1
    rw [hRF] at h
    refine h.mono fun e w' hs => ?_
    obtain ⟨A', c', he, hc, hf, hb⟩ := hs
    exact ⟨A', c', he, hc, ivF_of hf, hb⟩
  have hI := fun (A : Option Addr) (c : Nat) (w : World) (h1 : Kd.C k81 w A X.length X) (h2 : X.length ≤ c) => impl_PutSample_calls A c X x.f0 x.f1 x.f2 x.f3 w h1 h2 hX1 hX2 hX3 hm0 hm1
  rw [hRF] at hI
  obtain ⟨kt_, hkt_⟩ := rounds_of hT
  obtain ⟨ke_, hke_⟩ := rounds_of (eqSeriesS_ev R (by omega) (fun s hs => by have := hR2 s hs; omega))
  obtain ⟨kx_, hkx_⟩ := rounds_of (eqSeriesS_ev X (by omega) (fun s hs => by have := hX2 s hs; omega))
  have KS := ak hS
  have KI := ak hI
  have KT0 := ak hkt_
  have KE := ak hke_
  have KX := ak hkx_
  have MX := ak (show (0 : Int) ≤ 1 ∧ 1 + mkN X ≤ 4611686018427387000 ∧ X.length ≤ 4611686018427387000 from ⟨by decide, by unfold wM at hr2; omega, by omega⟩)
  have MR := ak (show (0 : Int) ≤ 1 ∧ 1 + mkN R ≤ 4611686018427387000 ∧ R.length ≤ 4611686018427387000 from ⟨by decide, by unfold wM at hr2; omega, by omega⟩)
  have e1 : decide (1 + mkN X < 0) = false := decide_eq_false (by omega)
  have e2 : decide (1 + mkN R < 0) = false := decide_eq_false (by omega)
  have e3 : (cd != cd) = false := bne_self_eq_false cd
  clear hkz hky hI hS hkt_ hke_ hkx_ hT hRF hcd hR hR1 hR2 hR3 hR4 hX hX1 hX2 hX3 hX4 hX5 hwl hpl hxl hm0 hm1 hn hr1 hr2 d d2 hb1 hb2 hr0 hc0 hok hokM hbm
  go_enter Try.func7, Try.ntmps7
  try go_wp2_with (first | ((with_reducible refine gate_dst (N := 3) rfl ?_); refine bx 3 #[.string x.f0, .string x.f1, .int .i64 x.f2, .int .i64 x.f3] 68 ?_; intro gb hg w1 hbox hb; have BKb := ak hbox; have LTb := ak (blk_lt hbox); have SZ0 := ak hb.size; replace HB := ak (below_step HB.out hb); clear hb hbox hg) | ((with_reducible refine gate_dst (N := 18) rfl ?_); refine gl (some 18) Try.func21 #[.slice A0 l.length c0, .int .i64 1048576] ?_; (refine (laws_szSeriesS.calls _ _ _ l 1048576 r1 _ ?s0 HC0.out KZ.out).mono ?_); (case s0 => exact cb HR0); rintro e w2 ⟨rfl, hb⟩; refine ⟨_, rfl, ?_⟩; replace BKb := ak (blk_below BKb.out hb); have SZ1 := ak hb.size; replace HB := ak (below_step HB.out hb); clear hb; obtain ⟨hcz_0, hcz_1, hcz_2, hcz_3, hfz_0, hfz_1, hfz_2, hfz_3⟩ := cz4 BKb) | ((with_reducible refine gate_dst (N := 23) rfl ?_); refine gl (some 23) Try.func42 #[.agg #[.string x.f0, .string x.f1, .int .i64 x.f2, .int .i64 x.f3], .int .i64 r1] ?_; (refine (laws_szSample.calls x.f0 x.f1 x.f2 x.f3 r1 r2 _ KY.out).mono ?_); rintro e w3 ⟨rfl, hb⟩; refine ⟨_, rfl, ?_⟩; replace BKb := ak (blk_below BKb.out hb); have SZ2 := ak hb.size; replace HB := ak (below_step HB.out hb); clear hb))
  have hb := (below_drew (Below.refl w3.heap.size w3) : Below w3.heap.size w3 w3.drew)
  replace BKb := ak (blk_below BKb.out hb)
  have SZ3 := ak hb.size
  replace HB := ak (below_step HB.out hb)
  clear hb
  refine start_ (n := 10) (S := fun w' => w'.cell? ⟨gb, 0, none⟩ = some (.string x.f0) ∧ w'.cell? ⟨gb, 1, none⟩ = some (.string x.f1) ∧ w'.cell? ⟨gb, 2, none⟩ = some (.int .i64 x.f2) ∧ w'.cell? ⟨gb, 3, none⟩ = some (.int .i64 x.f3)) (ds := []) (bitsA 10 0) (by kernel_rfl) rfl rfl ⟨bc BKb 0, bc BKb 1, bc BKb 2, bc BKb 3⟩ (fun hHeld => ?_)
  refine with_tabW put_tab8 put_bits8 (fun HT_ HW_ => ?_)
  generalize w3.drew = w4 at BKb SZ3 HB hHeld ⊢
  refine pu 0 (some 27) (bitsA 10 1) ?_
  refine tk 2 (some 29) (bitsA 10 5) hHeld ?_ (hy := Or.inl ⟨by rfl, by rintro w' ⟨s0, s1, s2, s3⟩; go_simp; with_reducible rfl⟩)
  refine one_ (i := 1) (N := some 28) (bitsA 10 7) rfl rfl (one_of HT_.out (by kernel_rfl)) (by decide) (fun K hK => ?_)
  refine goes_ Try.func23 (by kernel_rfl) rfl #[.slice A0 l.length c0] (by rfl) rfl rfl mt ?_
  (refine (laws_toSeriesS.calls _ _ _ l X _ ?s0 HC0.out KT0.out).mono ?_)
  (case s0 => exact cb HR0)
  rintro e w5 ⟨v_, rfl, ho, hb⟩
  refine ⟨_, rfl, ?_⟩
  obtain ⟨AOa, COa, ex⟩ := Kd.S_slice ho
  subst ex
  replace BKb := ak (blk_below BKb.out hb)
  have Xa := ak (ivS_new (w := w) (W := w4) ho HB.out.size)
  have SZ4 := ak hb.size
  replace HB := ak (below_step HB.out hb)
  clear hb ho
  refine hK.out _ _ ⟨bc BKb 0, bc BKb 1, bc BKb 2, bc BKb 3⟩ (fun hHeld => ?_)
  clear hK K
  refine nm ?_
  refine one_ (i := 3) (N := some 30) (bitsA 10 15) rfl rfl (one_of HT_.out (by kernel_rfl)) (by decide) (fun K hK => ?_)
  refine goes_ Try.func44 (by kernel_rfl) rfl #[.agg #[.string x.f0, .string x.f1, .int .i64 x.f2, .int .i64 x.f3]] (by rfl) rfl rfl mt ?_
  (refine (laws_toSample.calls x.f0 x.f1 x.f2 x.f3 x.f0 x.f1 x.f2 x.f3 _ rfl).mono ?_)
  rintro e w6 ⟨rfl, hb⟩
  refine ⟨_, rfl, ?_⟩
  replace Xa := ak (ivS_below Xa.out hb)
  replace BKb := ak (blk_below BKb.out hb)
  have SZ5 := ak hb.size
  replace HB := ak (below_step HB.out hb)
  clear hb
  refine hK.out _ _ ⟨bc BKb 0, bc BKb 1, bc BKb 2, bc BKb 3⟩ (fun hHeld => ?_)
  clear hK K
  refine nm ?_
  refine one_ (i := 4) (N := some 31) (bitsA 10 31) rfl rfl (one_of HT_.out (by kernel_rfl)) (by decide) (fun K hK => ?_)
  refine goes_ Try.func43 (by kernel_rfl) rfl #[.slice AOa (X).length COa, .agg #[.string x.f0, .string x.f1, .int .i64 x.f2, .int .i64 x.f3]] (by rfl) rfl rfl mt ?_
  (refine (KS.out _ _ _ ?s0 ?s1).mono ?_)
  (case s0 => exact ivS_read Xa.out)
  (case s1 => exact ivS_room Xa.out)
  rintro e w7 ⟨AOw, COw, rfl, hro, hF, hb⟩
  refine ⟨_, rfl, ?_⟩
  replace Xa := ak (ivS_below Xa.out hb)
  replace BKb := ak (blk_below BKb.out hb)
  have ROw := ak hro
  have Xw := ak hF
  have SZ6 := ak hb.size
  replace HB := ak (below_step HB.out hb)
  clear hb hro hF
  refine hK.out _ _ ⟨bc BKb 0, bc BKb 1, bc BKb 2, bc BKb 3⟩ (fun hHeld => ?_)
  clear hK K
  refine nm ?_
  refine pu 5 (some 26) (bitsA 10 63) ?_
  refine pu 6 (some 32) (bitsA 10 127) ?_
  refine pu 7 (some 33) (bitsA 10 255) ?_
  refine pu 8 (some 6) (bitsA 10 511) ?_
  refine pu 9 (some 7) (bitsA 10 1023) ?_
  refine done_ (done_of HT_.out (by kernel_rfl)) ?_
  go_upto_region 27 with (first | ((with_reducible refine gate_dst (N := 35) rfl ?_); refine gl (some 35) Try.func23 #[.slice A0 l.length c0] ?_; (refine (laws_toSeriesS.calls _ _ _ l X _ ?s0 HC0.out KT0.out).mono ?_); (case s0 => exact cb HR0); rintro e w8 ⟨v_, rfl, ho, hb⟩; refine ⟨_, rfl, ?_⟩; obtain ⟨AOx, COx, ex⟩ := Kd.S_slice ho; subst ex; replace Xa := ak (ivS_below Xa.out hb); replace Xw := ak (ivF_below Xw.out hb); replace BKb := ak (blk_below BKb.out hb); have Xx := ak (ivS_new (w := w) (W := w7) ho HB.out.size); have SZ7 := ak hb.size; replace HB := ak (below_step HB.out hb); clear hb ho; obtain ⟨hcz_0, hcz_1, hcz_2, hcz_3, hfz_0, hfz_1, hfz_2, hfz_3⟩ := cz4 BKb) | ((with_reducible refine gate_dst (N := 39) rfl ?_); refine gl (some 39) Try.func44 #[.agg #[.string x.f0, .string x.f1, .int .i64 x.f2, .int .i64 x.f3]] ?_; (refine (laws_toSample.calls x.f0 x.f1 x.f2 x.f3 x.f0 x.f1 x.f2 x.f3 _ rfl).mono ?_); rintro e w9 ⟨rfl, hb⟩; refine ⟨_, rfl, ?_⟩; replace Xa := ak (ivS_below Xa.out hb); replace Xw := ak (ivF_below Xw.out hb); replace Xx := ak (ivS_below Xx.out hb); replace BKb := ak (blk_below BKb.out hb); have SZ8 := ak hb.size; replace HB := ak (below_step HB.out hb); clear hb) | ((with_reducible refine gate_dst (N := 40) rfl ?_); refine gl (some 40) Try.func14 #[.slice AOx (X).length COx, .agg #[.string x.f0, .string x.f1, .int .i64 x.f2, .int .i64 x.f3]] ?_; (refine (KI.out _ _ _ ?s0 ?s1).mono ?_); (case s0 => exact ivS_read Xx.out); (case s1 => exact ivS_room Xx.out); rintro e w10 ⟨v_, rfl, ho, hb⟩; refine ⟨_, rfl, ?_⟩; obtain ⟨AOg, COg, ex⟩ := Kd.S_slice ho; subst ex; replace Xa := ak (ivS_below Xa.out hb); replace Xw := ak (ivF_below Xw.out hb); replace Xx := ak (ivS_below Xx.out hb); replace BKb := ak (blk_below BKb.out hb); have Xg := ak (ivS_new (w := w) (W := w9) ho HB.out.size); have SZ9 := ak hb.size; replace HB := ak (below_step HB.out hb); clear hb ho) | ((with_reducible refine gate_dst (N := 45) rfl ?_); refine gl (some 45) Try.func24 #[.slice AOg (R).length COg, .slice AOw (R).length COw] ?_; (refine (laws_eqSeriesS.calls _ _ _ _ _ _ _ true _ ?s0 ?s1 ?s2 ?s3 KE.out).mono ?_); (case s0 => exact ivq_read Xg.out); (case s1 => exact ivS_room Xg.out); (case s2 => exact ivF_read Xw.out); (case s3 => exact ROw.out); rintro e w11 ⟨rfl, hb⟩; refine ⟨_, rfl, ?_⟩; replace Xa := ak (ivS_below Xa.out hb); replace Xw := ak (ivF_below Xw.out hb); replace Xx := ak (ivS_below Xx.out hb); replace Xg := ak (ivS_below Xg.out hb); replace BKb := ak (blk_below BKb.out hb); have SZ10 := ak hb.size; replace HB := ak (below_step HB.out hb); clear hb) | ((with_reducible refine gate_dst (N := 54) rfl ?_); refine gl (some 54) Try.func23 #[.slice A0 l.length c0] ?_; (refine (laws_toSeriesS.calls _ _ _ l X _ ?s0 HC0.out KT0.out).mono ?_); (case s0 => exact cb HR0); rintro e w12 ⟨v_, rfl, ho, hb⟩; refine ⟨_, rfl, ?_⟩; obtain ⟨AOb, COb, ex⟩ := Kd.S_slice ho; subst ex; replace Xa := ak (ivS_below Xa.out hb); replace Xw := ak (ivF_below Xw.out hb); replace Xx := ak (ivS_below Xx.out hb); replace Xg := ak (ivS_below Xg.out hb); replace BKb := ak (blk_below BKb.out hb); have Xb := ak (ivS_new (w := w) (W := w11) ho HB.out.size); have SZ11 := ak hb.size; replace HB := ak (below_step HB.out hb); clear hb ho) | ((with_reducible refine gate_dst (N := 55) rfl ?_); refine gl (some 55) Try.func24 #[.slice AOx (X).length COx, .slice AOb (X).length COb] ?_; (refine (laws_eqSeriesS.calls _ _ _ _ _ _ _ true _ ?s0 ?s1 ?s2 ?s3 KX.out).mono ?_); (case s0 => exact ivS_read Xx.out); (case s1 => exact ivS_room Xx.out); (case s2 => exact ivS_read Xb.out); (case s3 => exact ivS_room Xb.out); rintro e w13 ⟨rfl, hb⟩; refine ⟨_, rfl, ?_⟩; replace Xa := ak (ivS_below Xa.out hb); replace Xw := ak (ivF_below Xw.out hb); replace Xx := ak (ivS_below Xx.out hb); replace Xg := ak (ivS_below Xg.out hb); replace Xb := ak (ivS_below Xb.out hb); replace BKb := ak (blk_below BKb.out hb); have SZ12 := ak hb.size; replace HB := ak (below_step HB.out hb); clear hb) | ((with_reducible refine gate_dst (N := 59) rfl ?_); refine gl (some 59) Try.func25 #[.slice AOx (X).length COx, .int .i64 1] ?_; (refine (laws_markSeriesS_calls (fun k => w7.heap.size ≤ k ∧ k < w8.heap.size) _ (X) 1 w _ ?s0 ?s1 ?s2 ?s3 ?s4).mono ?_); (case s0 => exact HB.out); (case s1 => exact Xx.out); (case s2 => exact MX.out.1); (case s3 => exact MX.out.2.1); (case s4 => exact MX.out.2.2); rintro e w14 ⟨rfl, ho, hb, hk⟩; refine ⟨_, rfl, ?_⟩; replace Xa := ak (ivS_kept Xa.out hk (.inl (by have := SZ0.out; have := SZ1.out; have := SZ2.out; have := SZ3.out; have := SZ4.out; have := SZ5.out; have := SZ6.out; have := SZ7.out; have := SZ8.out; have := SZ9.out; have := SZ10.out; have := SZ11.out; have := SZ12.out; omega))); replace Xw := ak (ivF_kept Xw.out hk (.inl (by have := SZ0.out; have := SZ1.out; have := SZ2.out; have := SZ3.out; have := SZ4.out; have := SZ5.out; have := SZ6.out; have := SZ7.out; have := SZ8.out; have := SZ9.out; have := SZ10.out; have := SZ11.out; have := SZ12.out; omega))); replace Xg := ak (ivS_kept Xg.out hk (.inr (by have := SZ0.out; have := SZ1.out; have := SZ2.out; have := SZ3.out; have := SZ4.out; have := SZ5.out; have := SZ6.out; have := SZ7.out; have := SZ8.out; have := SZ9.out; have := SZ10.out; have := SZ11.out; have := SZ12.out; omega))); replace Xb := ak (ivS_kept Xb.out hk (.inr (by have := SZ0.out; have := SZ1.out; have := SZ2.out; have := SZ3.out; have := SZ4.out; have := SZ5.out; have := SZ6.out; have := SZ7.out; have := SZ8.out; have := SZ9.out; have := SZ10.out; have := SZ11.out; have := SZ12.out; omega))); replace BKb := ak (blk_kept BKb.out hk (fun h => by have := LTb.out; have := SZ0.out; have := SZ1.out; have := SZ2.out; have := SZ3.out; have := SZ4.out; have := SZ5.out; have := SZ6.out; have := SZ7.out; have := SZ8.out; have := SZ9.out; have := SZ10.out; have := SZ11.out; have := SZ12.out; omega)); have SZ13 := ak hk.1; replace HB := ak hb; clear hb ho hk) | (go_at_call 24; (refine (laws_eqSeriesS.calls _ _ _ _ _ _ _ true _ ?s0 ?s1 ?s2 ?s3 KE.out).mono ?_); (case s0 => exact ivq_read Xg.out); (case s1 => exact ivS_room Xg.out); (case s2 => exact ivF_read Xw.out); (case s3 => exact ROw.out); rintro e w15 ⟨rfl, hb⟩; replace Xa := ak (ivS_below Xa.out hb); replace Xw := ak (ivF_below Xw.out hb); replace Xg := ak (ivS_below Xg.out hb); replace Xb := ak (ivS_below Xb.out hb); replace BKb := ak (blk_below BKb.out hb); have SZ14 := ak hb.size; replace HB := ak (below_step HB.out hb); clear hb) | ((with_reducible refine gate_dst (N := 75) rfl ?_); refine gl (some 75) Try.func25 #[.slice AOg (R).length COg, .int .i64 1] ?_; (refine (markSeriesQ_calls (fun k => w9.heap.size ≤ k ∧ k < w10.heap.size) _ (R) 1 w _ ?s0 ?s1 ?s2 ?s3 ?s4).mono ?_); (case s0 => exact HB.out); (case s1 => exact Xg.out); (case s2 => exact MR.out.1); (case s3 => exact MR.out.2.1); (case s4 => exact MR.out.2.2); rintro e w16 ⟨rfl, ho, hb, hk⟩; refine ⟨_, rfl, ?_⟩; replace Xa := ak (ivS_kept Xa.out hk (.inl (by have := SZ0.out; have := SZ1.out; have := SZ2.out; have := SZ3.out; have := SZ4.out; have := SZ5.out; have := SZ6.out; have := SZ7.out; have := SZ8.out; have := SZ9.out; have := SZ10.out; have := SZ11.out; have := SZ12.out; have := SZ13.out; have := SZ14.out; omega))); replace Xw := ak (ivF_kept Xw.out hk (.inl (by have := SZ0.out; have := SZ1.out; have := SZ2.out; have := SZ3.out; have := SZ4.out; have := SZ5.out; have := SZ6.out; have := SZ7.out; have := SZ8.out; have := SZ9.out; have := SZ10.out; have := SZ11.out; have := SZ12.out; have := SZ13.out; have := SZ14.out; omega))); replace Xb := ak (ivS_kept Xb.out hk (.inr (by have := SZ0.out; have := SZ1.out; have := SZ2.out; have := SZ3.out; have := SZ4.out; have := SZ5.out; have := SZ6.out; have := SZ7.out; have := SZ8.out; have := SZ9.out; have := SZ10.out; have := SZ11.out; have := SZ12.out; have := SZ13.out; have := SZ14.out; omega))); replace BKb := ak (blk_kept BKb.out hk (fun h => by have := LTb.out; have := SZ0.out; have := SZ1.out; have := SZ2.out; have := SZ3.out; have := SZ4.out; have := SZ5.out; have := SZ6.out; have := SZ7.out; have := SZ8.out; have := SZ9.out; have := SZ10.out; have := SZ11.out; have := SZ12.out; have := SZ13.out; have := SZ14.out; omega)); have SZ15 := ak hk.1; have Rg := ak (ivS_room Xg.out); have Hg := ak (show Kd.C k81 w16 AOg (R).length (markS 1 (R)) from by have h_ := (Kd.S_reads' ho).2.2; rw [markS_len] at h_; exact kq_C h_); replace HB := ak hb; clear hb ho hk) | ((with_reducible refine gate_dst (N := 78) rfl ?_); refine gl (some 78) Try.func26 #[.slice AOg (R).length COg, .int .i64 1] ?_; (refine (heldS_calls _ _ (R) _ ?s0 ?s1 MR.out.2.1 MR.out.2.2).mono ?_); (case s0 => exact Hg.out); (case s1 => exact Rg.out); rintro e w17 ⟨rfl, hb⟩; refine ⟨_, rfl, ?_⟩; replace Xa := ak (ivS_below Xa.out hb); replace Xw := ak (ivF_below Xw.out hb); replace Xb := ak (ivS_below Xb.out hb); replace Hg := ak (Kd.C_below Hg.out hb); replace BKb := ak (blk_below BKb.out hb); have SZ16 := ak hb.size; replace HB := ak (below_step HB.out hb); clear hb))
  have hb := (below_drew (Below.refl w17.heap.size w17) : Below w17.heap.size w17 w17.drew)
  replace Xa := ak (ivS_below Xa.out hb)
  replace Xw := ak (ivF_below Xw.out hb)
  replace Xb := ak (ivS_below Xb.out hb)
  replace Hg := ak (Kd.C_below Hg.out hb)
  replace BKb := ak (blk_below BKb.out hb)
  have SZ17 := ak hb.size
  replace HB := ak (below_step HB.out hb)
  clear hb
  refine start_ (n := 10) (S := fun w' => w'.cell? ⟨gb, 0, none⟩ = some (.string x.f0) ∧ w'.cell? ⟨gb, 1, none⟩ = some (.string x.f1) ∧ w'.cell? ⟨gb, 2, none⟩ = some (.int .i64 x.f2) ∧ w'.cell? ⟨gb, 3, none⟩ = some (.int .i64 x.f3)) (ds := []) (bitsA 10 0) (by kernel_rfl) rfl rfl ⟨bc BKb 0, bc BKb 1, bc BKb 2, bc BKb 3⟩ (fun hHeld => ?_)
  refine with_tabW put_tab27 put_bits27 (fun HT_ HW_ => ?_)
  generalize w17.drew = w18 at Xa Xw Xb Hg BKb SZ17 HB hHeld ⊢
  refine pu 0 (some 85) (bitsA 10 1) ?_
  refine tk 2 (some 87) (bitsA 10 5) hHeld ?_ (hy := Or.inl ⟨by rfl, by rintro w' ⟨s0, s1, s2, s3⟩; go_simp; with_reducible rfl⟩)
  refine one_ (i := 1) (N := some 86) (bitsA 10 7) rfl rfl (one_of HT_.out (by kernel_rfl)) (by decide) (fun K hK => ?_)
  refine goes_ Try.func23 (by kernel_rfl) rfl #[.slice A0 l.length c0] (by rfl) rfl rfl mt ?_
  (refine (laws_toSeriesS.calls _ _ _ l X _ ?s0 HC0.out KT0.out).mono ?_)
  (case s0 => exact cb HR0)
  rintro e w19 ⟨v_, rfl, ho, hb⟩
  refine ⟨_, rfl, ?_⟩
  obtain ⟨AOc, COc, ex⟩ := Kd.S_slice ho
  subst ex
  replace Xa := ak (ivS_below Xa.out hb)
  replace Xw := ak (ivF_below Xw.out hb)
  replace Xb := ak (ivS_below Xb.out hb)
  replace Hg := ak (Kd.C_below Hg.out hb)
  replace BKb := ak (blk_below BKb.out hb)
  have Xc := ak (ivS_new (w := w) (W := w18) ho HB.out.size)
  have SZ18 := ak hb.size
  replace HB := ak (below_step HB.out hb)
  clear hb ho
  refine hK.out _ _ ⟨bc BKb 0, bc BKb 1, bc BKb 2, bc BKb 3⟩ (fun hHeld => ?_)
  clear hK K
  refine nm ?_
  refine one_ (i := 3) (N := some 88) (bitsA 10 15) rfl rfl (one_of HT_.out (by kernel_rfl)) (by decide) (fun K hK => ?_)
  refine goes_ Try.func44 (by kernel_rfl) rfl #[.agg #[.string x.f0, .string x.f1, .int .i64 x.f2, .int .i64 x.f3]] (by rfl) rfl rfl mt ?_
  (refine (laws_toSample.calls x.f0 x.f1 x.f2 x.f3 x.f0 x.f1 x.f2 x.f3 _ rfl).mono ?_)
  rintro e w20 ⟨rfl, hb⟩
  refine ⟨_, rfl, ?_⟩
  replace Xa := ak (ivS_below Xa.out hb)
  replace Xw := ak (ivF_below Xw.out hb)
  replace Xb := ak (ivS_below Xb.out hb)
  replace Xc := ak (ivS_below Xc.out hb)
  replace Hg := ak (Kd.C_below Hg.out hb)
  replace BKb := ak (blk_below BKb.out hb)
  have SZ19 := ak hb.size
  replace HB := ak (below_step HB.out hb)
  clear hb
  refine hK.out _ _ ⟨bc BKb 0, bc BKb 1, bc BKb 2, bc BKb 3⟩ (fun hHeld => ?_)
  clear hK K
  refine nm ?_
  refine one_ (i := 4) (N := some 89) (bitsA 10 31) rfl rfl (one_of HT_.out (by kernel_rfl)) (by decide) (fun K hK => ?_)
  refine goes_ Try.func14 (by kernel_rfl) rfl #[.slice AOc (X).length COc, .agg #[.string x.f0, .string x.f1, .int .i64 x.f2, .int .i64 x.f3]] (by rfl) rfl rfl mt ?_
  (refine (KI.out _ _ _ ?s0 ?s1).mono ?_)
  (case s0 => exact ivS_read Xc.out)
  (case s1 => exact ivS_room Xc.out)
  rintro e w21 ⟨v_, rfl, ho, hb⟩
  refine ⟨_, rfl, ?_⟩
  obtain ⟨AOh, COh, ex⟩ := Kd.S_slice ho
  subst ex
  replace Xa := ak (ivS_below Xa.out hb)
  replace Xw := ak (ivF_below Xw.out hb)
  replace Xb := ak (ivS_below Xb.out hb)
  replace Xc := ak (ivS_below Xc.out hb)
  replace Hg := ak (Kd.C_below Hg.out hb)
  replace BKb := ak (blk_below BKb.out hb)
  have Xh := ak (ivS_new (w := w) (W := w20) ho HB.out.size)
  have SZ20 := ak hb.size
  replace HB := ak (below_step HB.out hb)
  clear hb ho
  refine hK.out _ _ ⟨bc BKb 0, bc BKb 1, bc BKb 2, bc BKb 3⟩ (fun hHeld => ?_)
  clear hK K
  refine nm ?_
  refine pu 5 (some 84) (bitsA 10 63) ?_
  refine pu 6 (some 90) (bitsA 10 127) ?_
  refine pu 7 (some 91) (bitsA 10 255) ?_
  refine pu 8 (some 14) (bitsA 10 511) ?_
  refine pu 9 (some 15) (bitsA 10 1023) ?_
  refine done_ (done_of HT_.out (by kernel_rfl)) ?_
  go_wp2_with (first | ((with_reducible refine gate_dst (N := 94) rfl ?_); refine gl (some 94) Try.func24 #[.slice AOh (R).length COh, .slice AOw (R).length COw] ?_; (refine (laws_eqSeriesS.calls _ _ _ _ _ _ _ true _ ?s0 ?s1 ?s2 ?s3 KE.out).mono ?_); (case s0 => exact ivq_read Xh.out); (case s1 => exact ivS_room Xh.out); (case s2 => exact ivF_read Xw.out); (case s3 => exact ROw.out); rintro e w22 ⟨rfl, hb⟩; refine ⟨_, rfl, ?_⟩; replace Xa := ak (ivS_below Xa.out hb); replace Xw := ak (ivF_below Xw.out hb); replace Xb := ak (ivS_below Xb.out hb); replace Xc := ak (ivS_below Xc.out hb); replace Xh := ak (ivS_below Xh.out hb); replace Hg := ak (Kd.C_below Hg.out hb); replace BKb := ak (blk_below BKb.out hb); have SZ21 := ak hb.size; replace HB := ak (below_step HB.out hb); clear hb) | ((with_reducible refine gate_dst (N := 103) rfl ?_); refine gl (some 103) Try.func26 #[.slice AOg (R).length COg, .int .i64 1] ?_; (refine (heldS_calls _ _ (R) _ ?s0 ?s1 MR.out.2.1 MR.out.2.2).mono ?_); (case s0 => exact Hg.out); (case s1 => exact Rg.out); rintro e w23 ⟨rfl, hb⟩; refine ⟨_, rfl, ?_⟩; replace Xa := ak (ivS_below Xa.out hb); replace Xw := ak (ivF_below Xw.out hb); replace Xb := ak (ivS_below Xb.out hb); replace Xc := ak (ivS_below Xc.out hb); replace Xh := ak (ivS_below Xh.out hb); replace Hg := ak (Kd.C_below Hg.out hb); replace BKb := ak (blk_below BKb.out hb); have SZ22 := ak hb.size; replace HB := ak (below_step HB.out hb); clear hb))
  go_ret
  exact ⟨rfl, HB.out⟩
end Go.Proofs.Ytplekidnlofioaa.Q
