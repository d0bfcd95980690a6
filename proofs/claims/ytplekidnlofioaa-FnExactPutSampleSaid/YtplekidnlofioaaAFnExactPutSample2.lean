/- Part 2 of the proof of FnExactPutSample: contracts of the functions that it reaches, printed and by hand, and what they come to in plain Lean. -/
import Derived.Test.YtplekidnlofioaaProg
import Derived.Below
import Derived.Deep.Draws
import Derived.Deep.AppendLies
import Derived.Maps.AppendAt
import Derived.OwnWalk
import Derived.Laws.BytesArg
import Derived.Laws.MakeOwn
import Derived.Laws.OwnMore
import Derived.Deep.OwnRows
import Derived.Tactics
import Derived.Lib.ConvBytes
import Derived.Laws.Slices
import Derived.WalkKit
import Derived.KernelRfl
import Derived.RowKit3
import Derived.Deep.LoopGhost
import Derived.Deep.QuietTactic
import Derived.BigQuiet
import Derived.WideLaws
import Derived.Deep.DeepCutAuto
import Derived.Deep.CutBlock
import Derived.Deep.RegionHeld3
import Derived.Laws.Rows
import Derived.Lib.AppendStr
import Derived.ArgAppend
import Derived.Laws.IdiomCopy
import Derived.OrdersHeld
import Derived.Laws.BitsLemmas
import Derived.RowKit
import Derived.Test.YtplekidnlofioaaAFnExactPutSample1
import Derived.WalkLawsBesides
import Derived.Lib.Strings
namespace Go.Proofs.Ytplekidnlofioaa.Q
open Go.RowKit Go.Proofs.YtplekidnlofioaaW.PrintWords Go.Proofs.YtplekidnlofioaaW.PrintLast Go.Proofs.YtplekidnlofioaaW.PrintMore
attribute [local go_sem] max2_int min2_int max_two min_two max_three min_three max_four min_four   -- for this text's walks alone
set_option linter.unusedVariables false
set_option linter.unusedSimpArgs false



def errW : Option Int → Value
  | none => .nilIface
  | some c => .iface 0 (.int .i64 c)
theorem errW_none : errW none = .nilIface := rfl
theorem errW_some (c : Int) : errW (some c) = .iface 0 (.int .i64 c) := rfl


def bitsA (n m : Nat) : Array Bool := ((List.range n).map fun j => m.testBit j).toArray
theorem pu {P : Program} {md : Region.Mode} {ops : Array Oper} {Q : Exit → Act → World → Prop} {S : World → Prop} {ds : List Nat} (i : Nat) (N : Option Tmp) (l' : Array Bool) {oi : Oper} {v : Value} {fuel : Nat} {l : Array Bool} {a : Act} {w : World} {a' : Act}
    (h : wpAnyLast P md ops Q S ds fuel l' a' w) (hi : ops[i]? = some oi := by rfl) (hN : oi.dst = N := by rfl) (hc : anyB md ops l l' i = true := by exact any_of HT_.out (by kernel_rfl))
    (hQ : ∀ c a w, Q (.panic c) (a.put oi.dst v) w → Q (.panic c) a w := by exact fun _ _ _ h => h) (hy : Yields P ops oi v a := by (refine Or.inl ⟨by rfl, ?_⟩; intro w'; go_simp; with_reducible rfl)) (ha : a.put N v = a' := by (simp only [Act.put, List.setIfInBounds_toArray, List.set_cons_zero, List.set_cons_succ, i64_w, i32_w]; rfl)) :
    wpAnyLast P md ops Q S ds (fuel + 1) l a w := pure_ l' hi hN hc hQ hy ha h
theorem bk {A B : Prop} (x : Aside0 A) (f : A → B := by (intro hx_; (with_reducible repeat (first | refine blk_drewN ?_ _ | refine blk_drew ?_ | refine blk_alloc ?_ _)); exact hx_)) : B := f x.out
theorem kr {A B : Prop} (x : Aside0 A) (f : A → B := by (intro hx_; (with_reducible repeat (first | apply Kd.R_alloc | apply Kd.R_drewN | apply Kd.R_drew)); exact hx_)) : B := f x.out
theorem ks {A B : Prop} (x : Aside0 A) (f : A → B := by (intro hx_; (with_reducible repeat (first | apply Kd.S_alloc | apply Kd.S_drewN | apply Kd.S_drew)); exact hx_)) : B := f x.out
theorem bl {B : Prop} (h : B := by repeat (first | (with_reducible first | exact HB.out | apply below_alloc | apply pw_below_drewN | apply below_drew1) | exact HB.out)) : B := h
theorem bl1 {A B : Prop} (x : Aside0 A) (f : A → B := by (intro hx_; repeat (first | (with_reducible first | exact HB.out | apply below_alloc | apply pw_below_drewN | apply below_drew1 | refine below_set ?_ hx_) | exact HB.out))) : B := f x.out
theorem bl2 {A A2 B : Prop} (x : Aside0 A) (y : Aside0 A2) (f : A → A2 → B := by (intro hx_ hy_; repeat (first | (with_reducible first | exact HB.out | apply below_alloc | apply pw_below_drewN | apply below_drew1 | refine below_set ?_ hx_ | refine below_set ?_ hy_) | exact HB.out))) : B := f x.out y.out
theorem bl3 {A A2 A3 B : Prop} (x : Aside0 A) (y : Aside0 A2) (z : Aside0 A3) (f : A → A2 → A3 → B := by (intro hx_ hy_ hz_; repeat (first | (with_reducible first | exact HB.out | apply below_alloc | apply pw_below_drewN | apply below_drew1 | refine below_set ?_ hx_ | refine below_set ?_ hy_ | refine below_set ?_ hz_) | exact HB.out))) : B := f x.out y.out z.out

theorem iT {α : Type} {c : Decidable (true = true)} {x y r : α} (h : (if true = true then x else y) = r) : x = r := by rw [if_pos rfl] at h; exact h
theorem iF {α : Type} {c : Decidable (false = true)} {x y r : α} (h : (if false = true then x else y) = r) : y = r := by rw [if_neg Bool.false_ne_true] at h; exact h
theorem bo {α β : Type} {x : Option α} {f : α → Option β} {r : β} (h : x.bind f = some r) : ∃ a, x = some a ∧ f a = some r := Option.bind_eq_some_iff.mp h
theorem ak {p : Prop} (h : p) : Aside0 p := ⟨h⟩
theorem am {p : Prop} (h : p := by first | (with_reducible assumption) | assumption) : p := h
theorem ew {p : Prop} (h : p := by first | rfl | (simp [errW_none, errW_some] <;> rfl) | (simp [*, errW_none, errW_some] <;> rfl)) : p := h
theorem es {p : Prop} (h : p := by first | rfl | (simp; done) | (simp [*]; done)) : p := h
theorem ko {p : Prop} (h : p := by (have := HK1.out; first | omega | exact Nat.le_refl _)) : p := h
theorem kp {p : Prop} (h : p := by (have := HK1.out; omega)) : p := h
theorem dr0 {p : Prop} (h : p := by repeat (first | exact Drawn0.refl _ | apply Drawn0.step)) : p := h
theorem mt {p : Prop} (h : p := by ((try simp only [List.map_toArray, List.map_cons, List.map_nil]); first | done | rfl | (simp only [List.length_drop, List.length_take]; rfl))) : p := h
theorem dd {p : Prop} (h : p := by first | exact ⟨rfl, _, World.drewN_drewN _ _ _⟩ | exact ⟨rfl, _, Eq.trans (World.drewN_drewN _ _ _) (congrArg (World.drewN _) (Nat.add_assoc _ _ _))⟩) : p := h
theorem cw {w0 W : World} {p : Addr} {v : Value} (h : w0.cell? p = some v) (hb : Below w0.heap.size w0 W := by first | exact HB.out | exact bl) : W.cell? p = some v := (hb.cell (World.block_lt_of_cell? w0 _ h)).trans h
theorem cb {A B : Prop} (x : Aside0 A) (f : A → B := by (intro hx_; repeat (first | exact (Kd.C_below hx_ HB.out) | (with_reducible refine Kd.C_alloc ?_ _) | (with_reducible refine Kd.C_drewN ?_ _) | (with_reducible refine Kd.C_drew ?_)))) : B := f x.out
theorem bb {W0 W1 W2 : World} {g : Nat} {o : Obj} (x : Aside0 (W0.heap[g]? = some o)) (hb : Below W1.heap.size W1 W2) (f : W0.heap[g]? = some o → W1.heap[g]? = some o := by (intro hx_; (with_reducible repeat (first | refine blk_drewN ?_ _ | refine blk_drew ?_ | refine blk_alloc ?_ _)); exact hx_)) : Aside0 (W2.heap[g]? = some o) := ⟨blk_below (f x.out) hb⟩
theorem bf1 {W0 W1 W2 : World} {g : Nat} {o : Obj} {p1 : Prop} (x : Aside0 (W0.heap[g]? = some o)) (n1 : Aside0 p1) (hb : Below W1.heap.size W1 W2) (f : W0.heap[g]? = some o → p1 → W1.heap[g]? = some o := by (intro hx_ hm_; repeat (first | (with_reducible first | exact hx_ | refine blk_drewN ?_ _ | refine blk_drew ?_ | refine blk_alloc ?_ _) | refine blk_far ?_ hm_ _))) : Aside0 (W2.heap[g]? = some o) := ⟨blk_below (f x.out n1.out) hb⟩
theorem gs {G : Nat} {w W : World} (hg : G = W.heap.size) (h : Below w.heap.size w W) : Aside0 (w.heap.size ≤ G) := ⟨by rw [hg]; exact below_size h⟩
theorem nl {W0 W : World} {g G : Nat} {o : Obj} (hg : G = W.heap.size) (x : Aside0 (W0.heap[g]? = some o)) (f : W0.heap[g]? = some o → W.heap[g]? = some o := by (intro hx_; (with_reducible repeat (first | refine blk_drewN ?_ _ | refine blk_drew ?_ | refine blk_alloc ?_ _)); exact hx_)) : Aside0 (g ≠ G) := ⟨by rw [hg]; exact Nat.ne_of_lt (blk_lt (f x.out))⟩
theorem ng {W0 W : World} {g G : Nat} {o : Obj} (hg : G = W.heap.size) (x : Aside0 (W0.heap[g]? = some o)) (f : W0.heap[g]? = some o → W.heap[g]? = some o := by (intro hx_; (with_reducible repeat (first | refine blk_drewN ?_ _ | refine blk_drew ?_ | refine blk_alloc ?_ _)); exact hx_)) : Aside0 (G ≠ g) := ⟨by rw [hg]; exact Nat.ne_of_gt (blk_lt (f x.out))⟩
theorem bc {w : World} {g : Nat} {t : TypeId} {cs : Array Value} {v : Value} (x : Aside0 (w.heap[g]? = some (.cells cs t (0, 0)))) (i : Nat) (h : cs[i]? = some v := by rfl) : w.cell? ⟨g, i, none⟩ = some v := (blk_cell x.out i).trans h
theorem cz1 {w : World} {g : Nat} {t : TypeId} {v0 : Value} (x : Aside0 (w.heap[g]? = some (.cells #[v0] t (0, 0)))) : w.cell? ⟨g, 0, none⟩ = some v0 ∧ w.frozen? ⟨g, 0, none⟩ = false := ⟨(blk_cell x.out 0).trans rfl, blk_frozen x.out 0⟩
theorem cz2 {w : World} {g : Nat} {t : TypeId} {v0 v1 : Value} (x : Aside0 (w.heap[g]? = some (.cells #[v0, v1] t (0, 0)))) : w.cell? ⟨g, 0, none⟩ = some v0 ∧ w.cell? ⟨g, 1, none⟩ = some v1 ∧ w.frozen? ⟨g, 0, none⟩ = false ∧ w.frozen? ⟨g, 1, none⟩ = false := ⟨(blk_cell x.out 0).trans rfl, (blk_cell x.out 1).trans rfl, blk_frozen x.out 0, blk_frozen x.out 1⟩
theorem cz3 {w : World} {g : Nat} {t : TypeId} {v0 v1 v2 : Value} (x : Aside0 (w.heap[g]? = some (.cells #[v0, v1, v2] t (0, 0)))) : w.cell? ⟨g, 0, none⟩ = some v0 ∧ w.cell? ⟨g, 1, none⟩ = some v1 ∧ w.cell? ⟨g, 2, none⟩ = some v2 ∧ w.frozen? ⟨g, 0, none⟩ = false ∧ w.frozen? ⟨g, 1, none⟩ = false ∧ w.frozen? ⟨g, 2, none⟩ = false := ⟨(blk_cell x.out 0).trans rfl, (blk_cell x.out 1).trans rfl, (blk_cell x.out 2).trans rfl, blk_frozen x.out 0, blk_frozen x.out 1, blk_frozen x.out 2⟩
theorem cz4 {w : World} {g : Nat} {t : TypeId} {v0 v1 v2 v3 : Value} (x : Aside0 (w.heap[g]? = some (.cells #[v0, v1, v2, v3] t (0, 0)))) : w.cell? ⟨g, 0, none⟩ = some v0 ∧ w.cell? ⟨g, 1, none⟩ = some v1 ∧ w.cell? ⟨g, 2, none⟩ = some v2 ∧ w.cell? ⟨g, 3, none⟩ = some v3 ∧ w.frozen? ⟨g, 0, none⟩ = false ∧ w.frozen? ⟨g, 1, none⟩ = false ∧ w.frozen? ⟨g, 2, none⟩ = false ∧ w.frozen? ⟨g, 3, none⟩ = false := ⟨(blk_cell x.out 0).trans rfl, (blk_cell x.out 1).trans rfl, (blk_cell x.out 2).trans rfl, (blk_cell x.out 3).trans rfl, blk_frozen x.out 0, blk_frozen x.out 1, blk_frozen x.out 2, blk_frozen x.out 3⟩
section
variable {P : Program} {ops : Array Oper} {rest : List Oper} {o : Oper} {a : Act} {Q : Exit → Act → World → Prop}
theorem bx {W : World} (N : Tmp) (cs : Array Value) (t : TypeId) (h : ∀ g, g = W.heap.size → ∀ w1, w1.heap[g]? = some (.cells cs t (0, 0)) → Below W.heap.size W w1 → wpList P ops Q rest (a.put o.dst (.pointer (some ⟨g, 0, none⟩))) w1)
    (hd : o.dst = some N := by rfl) (hgd : o.guard = none := by rfl) (hrun : (execOp a.eval o).run P W = .ok (.value (.pointer (some ⟨W.heap.size, 0, none⟩))) (W.alloc (.cells cs t (0, 0))) := by first | (go_simp; done) | (go_simp; rfl)) : wpList P ops Q (o :: rest) a W := box_event hgd hd hrun h
theorem gl {w : World} (N : Option Tmp) {f : FuncId} {fn : Func} {ao : Array Operand} {ts : Array TypeId} (hf : P.funcs[f]? = some fn) (args : Array Value) (h : Calls P f args w fun e w' => ∃ v, e = .returned v ∧ wpList P ops Q rest (a.put N v) w')
    (hd : o.dst = N := by rfl) (hg : o.guard = none := by rfl) (hname : (fn.name == "runtime.NumGoroutine") = false := by kernel_rfl) (hb : fn.body.isSome = true := by rfl) (hop : o.op = .call { callee := .value (.func f), args := ao, argTypes := ts } := by rfl) (hargs : ao.map a.eval = args := by exact mt) : wpList P ops Q (o :: rest) a w := goesL_ N hd hg hf hname hb args hop hargs h
theorem tk {md : Region.Mode} {S : World → Prop} {ds : List Nat} (i : Nat) (N : Option Tmp) (l' : Array Bool) {oi : Oper} {v : Value} {fuel : Nat} {l : Array Bool} {w : World} {a' : Act}
    (hS : S w) (h : wpAnyLast P md ops Q S ds fuel l' a' w) (hi : ops[i]? = some oi := by rfl) (hN : oi.dst = N := by rfl) (hc : takeB md ops ds l l' i = true := by exact take_ofW HT_.out HW_.out (by kernel_rfl))
    (hQ : ∀ c a w, Q (.panic c) (a.put oi.dst v) w → Q (.panic c) a w := by exact fun _ _ _ h => h) (hy : YieldsIf P ops S oi v a := by fail) (ha : a.put N v = a' := by (simp only [Act.put, List.setIfInBounds_toArray, List.set_cons_zero, List.set_cons_succ, i64_w, i32_w]; rfl)) : wpAnyLast P md ops Q S ds (fuel + 1) l a w := take_ l' hi hN hc hQ hy hS ha h
theorem nm {md : Region.Mode} {S : World → Prop} {ds : List Nat} {fuel : Nat} {l : Array Bool} {w : World} {a' : Act} (h : wpAnyLast P md ops Q S ds fuel l a' w) (ha : a = a' := by (show Act.put _ _ _ = _; simp only [Act.put, List.setIfInBounds_toArray, List.set_cons_zero, List.set_cons_succ, i64_w, i32_w]; rfl)) : wpAnyLast P md ops Q S ds fuel l a w := norm_ ha h
end

theorem info3 : (Try.prog.info? 3).map (fun i => (i.zero, i.size, i.bytes)) = some (some (.int .i64 0), 1, 8) := by kernel_rfl
theorem info9 : (Try.prog.info? 9).map (fun i => (i.zero, i.size, i.bytes)) = some (some (.string ⟨#[]⟩), 1, 16) := by kernel_rfl
theorem info37 : (Try.prog.info? 37).map (fun i => (i.zero, i.size, i.bytes)) = some (some (.agg #[(.int .i64 0), (.int .i64 0)]), 2, 16) := by kernel_rfl
theorem info81 : (Try.prog.info? 81).map (fun i => (i.zero, i.size, i.bytes)) = some (some (.agg #[(.string ⟨#[]⟩), (.string ⟨#[]⟩), (.slice none 0 0)]), 3, 56) := by kernel_rfl
structure S37 where
  f0 : Int
  f1 : Int
def z37 : S37 := ⟨(0 : Int), (0 : Int)⟩
def k37 : Kd S37 := Kd.iso (Kd.pair (Kd.int .i64) (Kd.int .i64)) (fun x : S37 => (x.f0, x.f1))
theorem k37_heap : Kd.Heap k37 := Kd.heap_iso _ (Kd.heap_pair (Kd.heap_int .i64) (Kd.heap_int .i64))
theorem k37_open {w : World} {x : S37} {cs : List Value} (h : k37.K w x cs) : cs = [.int .i64 x.f0, .int .i64 x.f1] := by
  obtain ⟨_, _, rfl, rfl, rfl⟩ := h
  exact rfl
theorem k37_openM {w : World} {base : Nat} {ok : Nat → Prop} {x : S37} {cs : List Value} (h : k37.M w base ok x cs) : cs = [.int .i64 x.f0, .int .i64 x.f1] := by
  obtain ⟨_, _, rfl, rfl, rfl⟩ := h
  exact rfl
theorem k37_mkM (w : World) (base : Nat) (ok : Nat → Prop) (x : S37)  : k37.M w base ok x [.int .i64 x.f0, .int .i64 x.f1] := ⟨[.int .i64 x.f0], [.int .i64 x.f1], rfl, rfl, rfl⟩
def rd_T37 (xs : List S37) (i : Int) : S37 := xs.getD i.toNat z37
theorem at_T37 {w : World} {A : Option Addr} {n : Nat} {xs : List S37} (h : Kd.C k37 w A n xs) (i : Int) (h0 : 0 ≤ i) (h1 : i < n) : ∃ ad , A = some ad ∧ w.cell? (ad.add (i.toNat * 2)) = some (.int .i64 (rd_T37 xs i).f0) ∧ w.cell? ⟨(ad.add (i.toNat * 2)).block, (ad.add (i.toNat * 2)).off + 1, none⟩ = some (.int .i64 (rd_T37 xs i).f1) := by
  obtain ⟨ad, c, e, _, hK, hc0⟩ := Kd.C_get h z37 i h0 h1
  have hc : ∀ j u, c[j]? = some u → w.cell? (ad.add (i.toNat * 2 + j)) = some u := hc0
  obtain rfl := k37_open hK
  exact ⟨ad, e, hc 0 _ rfl, by rw [← add_field _ _ 1 (by omega)]; exact hc 1 _ rfl⟩

structure S81 where
  f0 : ByteArray
  f1 : ByteArray
  f2 : (List S37)
def z81 : S81 := ⟨(⟨#[]⟩ : ByteArray), (⟨#[]⟩ : ByteArray), ([] : List S37)⟩
def k81 : Kd S81 := Kd.iso (Kd.pair Kd.string (Kd.pair Kd.string (Kd.slice 37 k37))) (fun x : S81 => (x.f0, x.f1, x.f2))
theorem k81_heap : Kd.Heap k81 := Kd.heap_iso _ (Kd.heap_pair Kd.heap_string (Kd.heap_pair Kd.heap_string (Kd.heap_slice 37 k37_heap)))
theorem k81_open {w : World} {x : S81} {cs : List Value} (h : k81.K w x cs) : ∃ A2 c2, cs = [.string x.f0, .string x.f1, .slice A2 x.f2.length c2] ∧ x.f2.length ≤ c2 ∧ k37.C w A2 x.f2.length x.f2 := by
  obtain ⟨_, _, rfl, rfl, ⟨_, _, rfl, rfl, ⟨A2, c2, rfl, l2, g2⟩⟩⟩ := h
  exact ⟨A2, c2, rfl, l2, g2⟩
theorem k81_openM {w : World} {base : Nat} {ok : Nat → Prop} {x : S81} {cs : List Value} (h : k81.M w base ok x cs) : ∃ v2, cs = [.string x.f0, .string x.f1, v2] ∧ k37.R 37 w base ok v2 x.f2 := by
  obtain ⟨_, _, rfl, rfl, ⟨_, _, rfl, rfl, ⟨v2, rfl, g2⟩⟩⟩ := h
  exact ⟨v2, rfl, g2⟩
theorem k81_mk (w : World) (x : S81) {A2 : Option Addr} {c2 : Nat} (l2 : x.f2.length ≤ c2) (g2 : k37.C w A2 x.f2.length x.f2) : k81.K w x [.string x.f0, .string x.f1, .slice A2 x.f2.length c2] := ⟨[.string x.f0], [.string x.f1, .slice A2 x.f2.length c2], rfl, rfl, ⟨[.string x.f1], [.slice A2 x.f2.length c2], rfl, rfl, ⟨A2, c2, rfl, l2, g2⟩⟩⟩
theorem k81_mkM (w : World) (base : Nat) (ok : Nat → Prop) (x : S81) {v2 : Value} (g2 : k37.R 37 w base ok v2 x.f2) : k81.M w base ok x [.string x.f0, .string x.f1, v2] := ⟨[.string x.f0], [.string x.f1, v2], rfl, rfl, ⟨[.string x.f1], [v2], rfl, rfl, ⟨v2, rfl, g2⟩⟩⟩
theorem k81_openF {W : World} {ok : Nat → Prop} {x : S81} {cs : List Value} (h : Kd.FK k81 W ok x cs) : ∃ A2 c2, cs = [.string x.f0, .string x.f1, .slice A2 x.f2.length c2] ∧ x.f2.length ≤ c2 ∧ Kd.F k37 W ok A2 x.f2.length x.f2 := by
  obtain ⟨A2, c2, rfl, l2, _⟩ := k81_open (Kd.FK_now h)
  exact ⟨A2, c2, rfl, l2, (fun W' hW => by obtain ⟨A2_, c2_, he, l2_, g2_⟩ := k81_open (h W' hW); injection (Option.some.inj (show some (Value.slice A2 x.f2.length c2) = some (Value.slice A2_ x.f2.length c2_) from congrArg (fun l => l[2]?) he)) with ha_ _ _; rw [ha_]; exact g2_)⟩
theorem k81_mkF (W : World) (ok : Nat → Prop) (x : S81) {A2 : Option Addr} {c2 : Nat} (l2 : x.f2.length ≤ c2) (g2 : Kd.F k37 W ok A2 x.f2.length x.f2) : Kd.FK k81 W ok x [.string x.f0, .string x.f1, .slice A2 x.f2.length c2] := fun W2 hW => k81_mk W2 x l2 (g2 W2 hW)
def rd_T81 (xs : List S81) (i : Int) : S81 := xs.getD i.toNat z81
theorem at_T81 {w : World} {A : Option Addr} {n : Nat} {xs : List S81} (h : Kd.C k81 w A n xs) (i : Int) (h0 : 0 ≤ i) (h1 : i < n) : ∃ ad A2 c2, A = some ad ∧ w.cell? (ad.add (i.toNat * 3)) = some (.string (rd_T81 xs i).f0) ∧ w.cell? ⟨(ad.add (i.toNat * 3)).block, (ad.add (i.toNat * 3)).off + 1, none⟩ = some (.string (rd_T81 xs i).f1) ∧ w.cell? ⟨(ad.add (i.toNat * 3)).block, (ad.add (i.toNat * 3)).off + 2, none⟩ = some (.slice A2 (rd_T81 xs i).f2.length c2) ∧ (rd_T81 xs i).f2.length ≤ c2 ∧ k37.C w A2 (rd_T81 xs i).f2.length (rd_T81 xs i).f2 := by
  obtain ⟨ad, c, e, _, hK, hc0⟩ := Kd.C_get h z81 i h0 h1
  have hc : ∀ j u, c[j]? = some u → w.cell? (ad.add (i.toNat * 3 + j)) = some u := hc0
  obtain ⟨A2, c2, rfl, l2, g2⟩ := k81_open hK
  exact ⟨ad, A2, c2, e, hc 0 _ rfl, by rw [← add_field _ _ 1 (by omega)]; exact hc 1 _ rfl, by rw [← add_field _ _ 2 (by omega)]; exact hc 2 _ rfl, l2, g2⟩

structure S219 where
  f0 : Int
  f1 : Int
def z219 : S219 := ⟨(0 : Int), (0 : Int)⟩
def k219 : Kd S219 := Kd.iso (Kd.pair (Kd.int .i64) (Kd.int .i64)) (fun x : S219 => (x.f0, x.f1))
theorem k219_open {w : World} {x : S219} {cs : List Value} (h : k219.K w x cs) : cs = [.int .i64 x.f0, .int .i64 x.f1] := by
  obtain ⟨_, _, rfl, rfl, rfl⟩ := h
  exact rfl
def rd_T219 (xs : List S219) (i : Int) : S219 := xs.getD i.toNat z219
theorem at_T219 {w : World} {A : Option Addr} {n : Nat} {xs : List S219} (h : Kd.C k219 w A n xs) (i : Int) (h0 : 0 ≤ i) (h1 : i < n) : ∃ ad , A = some ad ∧ w.cell? (ad.add (i.toNat * 2)) = some (.int .i64 (rd_T219 xs i).f0) ∧ w.cell? ⟨(ad.add (i.toNat * 2)).block, (ad.add (i.toNat * 2)).off + 1, none⟩ = some (.int .i64 (rd_T219 xs i).f1) := by
  obtain ⟨ad, c, e, _, hK, hc0⟩ := Kd.C_get h z219 i h0 h1
  have hc : ∀ j u, c[j]? = some u → w.cell? (ad.add (i.toNat * 2 + j)) = some u := hc0
  obtain rfl := k219_open hK
  exact ⟨ad, e, hc 0 _ rfl, by rw [← add_field _ _ 1 (by omega)]; exact hc 1 _ rfl⟩

structure S137 where
  f0 : ByteArray
  f1 : ByteArray
  f2 : (List S219)
def z137 : S137 := ⟨(⟨#[]⟩ : ByteArray), (⟨#[]⟩ : ByteArray), ([] : List S219)⟩
def k137 : Kd S137 := Kd.iso (Kd.pair Kd.string (Kd.pair Kd.string (Kd.slice 219 k219))) (fun x : S137 => (x.f0, x.f1, x.f2))
theorem k137_open {w : World} {x : S137} {cs : List Value} (h : k137.K w x cs) : ∃ A2 c2, cs = [.string x.f0, .string x.f1, .slice A2 x.f2.length c2] ∧ x.f2.length ≤ c2 ∧ k219.C w A2 x.f2.length x.f2 := by
  obtain ⟨_, _, rfl, rfl, ⟨_, _, rfl, rfl, ⟨A2, c2, rfl, l2, g2⟩⟩⟩ := h
  exact ⟨A2, c2, rfl, l2, g2⟩
def rd_T137 (xs : List S137) (i : Int) : S137 := xs.getD i.toNat z137
theorem at_T137 {w : World} {A : Option Addr} {n : Nat} {xs : List S137} (h : Kd.C k137 w A n xs) (i : Int) (h0 : 0 ≤ i) (h1 : i < n) : ∃ ad A2 c2, A = some ad ∧ w.cell? (ad.add (i.toNat * 3)) = some (.string (rd_T137 xs i).f0) ∧ w.cell? ⟨(ad.add (i.toNat * 3)).block, (ad.add (i.toNat * 3)).off + 1, none⟩ = some (.string (rd_T137 xs i).f1) ∧ w.cell? ⟨(ad.add (i.toNat * 3)).block, (ad.add (i.toNat * 3)).off + 2, none⟩ = some (.slice A2 (rd_T137 xs i).f2.length c2) ∧ (rd_T137 xs i).f2.length ≤ c2 ∧ k219.C w A2 (rd_T137 xs i).f2.length (rd_T137 xs i).f2 := by
  obtain ⟨ad, c, e, _, hK, hc0⟩ := Kd.C_get h z137 i h0 h1
  have hc : ∀ j u, c[j]? = some u → w.cell? (ad.add (i.toNat * 3 + j)) = some u := hc0
  obtain ⟨A2, c2, rfl, l2, g2⟩ := k137_open hK
  exact ⟨ad, A2, c2, e, hc 0 _ rfl, by rw [← add_field _ _ 1 (by omega)]; exact hc 1 _ rfl, by rw [← add_field _ _ 2 (by omega)]; exact hc 2 _ rfl, l2, g2⟩

structure S144 where
  f0 : ByteArray
  f1 : Int
  f2 : Int
  f3 : Bool
def z144 : S144 := ⟨(⟨#[]⟩ : ByteArray), (0 : Int), (0 : Int), false⟩
structure S147 where
  f0 : ByteArray
  f1 : Int
  f2 : Int
  f3 : Bool
def z147 : S147 := ⟨(⟨#[]⟩ : ByteArray), (0 : Int), (0 : Int), false⟩
structure S30 where
  f0 : ByteArray
  f1 : ByteArray
  f2 : Int
  f3 : Int
def z30 : S30 := ⟨(⟨#[]⟩ : ByteArray), (⟨#[]⟩ : ByteArray), (0 : Int), (0 : Int)⟩
structure S68 where
  f0 : ByteArray
  f1 : ByteArray
  f2 : Int
  f3 : Int
def z68 : S68 := ⟨(⟨#[]⟩ : ByteArray), (⟨#[]⟩ : ByteArray), (0 : Int), (0 : Int)⟩
def k68 : Kd S68 := Kd.iso (Kd.pair Kd.string (Kd.pair Kd.string (Kd.pair (Kd.int .i64) (Kd.int .i64)))) (fun x : S68 => (x.f0, x.f1, x.f2, x.f3))
theorem k68_open {w : World} {x : S68} {cs : List Value} (h : k68.K w x cs) : cs = [.string x.f0, .string x.f1, .int .i64 x.f2, .int .i64 x.f3] := by
  obtain ⟨_, _, rfl, rfl, ⟨_, _, rfl, rfl, ⟨_, _, rfl, rfl, rfl⟩⟩⟩ := h
  exact rfl
structure S223 where
  f0 : ByteArray
  f1 : Int
  f2 : Int
def z223 : S223 := ⟨(⟨#[]⟩ : ByteArray), (0 : Int), (0 : Int)⟩
structure S239 where
  f0 : Int
  f1 : Int
  f2 : Int
def z239 : S239 := ⟨(0 : Int), (0 : Int), (0 : Int)⟩
structure S208 where
  f0 : Int
  f1 : Int
def z208 : S208 := ⟨(0 : Int), (0 : Int)⟩
structure S210 where
  f0 : Int
  f1 : Int
def z210 : S210 := ⟨(0 : Int), (0 : Int)⟩
structure S234 where
  f0 : Int
  f1 : Int
  f2 : Int
def z234 : S234 := ⟨(0 : Int), (0 : Int), (0 : Int)⟩
structure S204 where
  f0 : ByteArray
  f1 : Int
  f2 : Int
def z204 : S204 := ⟨(⟨#[]⟩ : ByteArray), (0 : Int), (0 : Int)⟩
structure S167 where
  f0 : Int
  f1 : Int
def z167 : S167 := ⟨(0 : Int), (0 : Int)⟩
structure S169 where
  f0 : Int
  f1 : Int
def z169 : S169 := ⟨(0 : Int), (0 : Int)⟩
end Go.Proofs.Ytplekidnlofioaa.Q
namespace Go.Proofs.Ytplekidnlofioaa.Q
open Go.RowKit Go.Proofs.YtplekidnlofioaaW.PrintWords Go.Proofs.YtplekidnlofioaaW.PrintLast Go.Proofs.YtplekidnlofioaaW.PrintMore
attribute [local go_sem] max2_int min2_int max_two min_two max_three min_three max_four min_four   -- for this text's walks alone
set_option linter.unusedVariables false
set_option linter.unusedSimpArgs false

/-! ### spec_l01In: function 69 -/
def spec_l01In.f (a0 : Int) (a1 : Int) (a2 : Int) : Option (Bool) := if a1 ≤ a0 then (some (decide (a0 ≤ a2))) else (some false)
set_option maxHeartbeats 8000000 in
set_option maxRecDepth 100000 in
theorem spec_l01In.calls (a0 : Int) (a1 : Int) (a2 : Int) (r : Bool) (w : World) (h : spec_l01In.f a0 a1 a2 = some r) :
 Calls Try.prog 69 #[.int .i64 a0, .int .i64 a1, .int .i64 a2] w fun e w' => e = .returned (.bool r) ∧ Drawn0 w w' := by
 have H : (if a1 ≤ a0 then (some (decide (a0 ≤ a2))) else (some false)) = some r := h
 clear h
 by_cases c4 : a1 ≤ a0
 · rw [if_pos c4] at H
   have c4b0 : decide (a1 ≤ a0) = true := decide_eq_true c4
   clear c4
   obtain rfl := Option.some.inj H
   go_enter Try.func69, Try.ntmps69
   go_wp2
   go_ret
   exact ⟨es, dr0⟩
 · rw [if_neg c4] at H
   have c4b0 : decide (a1 ≤ a0) = false := decide_eq_false c4
   clear c4
   obtain rfl := Option.some.inj H
   go_enter Try.func69, Try.ntmps69
   go_wp2
   go_ret
   exact ⟨es, dr0⟩

end Go.Proofs.Ytplekidnlofioaa.Q
namespace Go.Proofs.Ytplekidnlofioaa.Q
open Go.RowKit Go.Proofs.YtplekidnlofioaaW.PrintWords Go.Proofs.YtplekidnlofioaaW.PrintLast Go.Proofs.YtplekidnlofioaaW.PrintMore
attribute [local go_sem] max2_int min2_int max_two min_two max_three min_three max_four min_four   -- for this text's walks alone
set_option linter.unusedVariables false
set_option linter.unusedSimpArgs false

/-! ### spec_NameOk: function 68 -/
def spec_NameOk.l0 : Nat → ByteArray → Int → Option (Bool)
 | 0, _, _ => none
 | k + 1, x0, x3 => if x3 < (x0.size : Int) then (if 0 ≤ x3 then (if (bt x0 x3) < 97 then (if (bt x0 x3) < 48 then (some false) else (if (bt x0 x3) > 57 then (some false) else (spec_NameOk.l0 k x0 (wrap64 (x3 + 1))))) else (if (bt x0 x3) > 122 then (if (bt x0 x3) < 48 then (some false) else (if (bt x0 x3) > 57 then (some false) else (spec_NameOk.l0 k x0 (wrap64 (x3 + 1))))) else (spec_NameOk.l0 k x0 (wrap64 (x3 + 1))))) else (none)) else (some true)
def spec_NameOk.f (k : Nat) (a0 : ByteArray) : Option (Bool) := (spec_l01In.f (a0.size : Int) 1 12).bind fun t179 => (if t179 = true then (spec_NameOk.l0 k a0 0) else (some false))
theorem spec_NameOk.mono_l : ∀ k, (∀ y0 y1, LeO (spec_NameOk.l0 k y0 y1) (spec_NameOk.l0 (k + 1) y0 y1))
 | 0 => fun _ _ r h => by simp [spec_NameOk.l0] at h
 | k + 1 => by
  have ih0 := spec_NameOk.mono_l k
  · intro y0 y1
    unfold spec_NameOk.l0
    repeat' first
    | (with_reducible exact ih0 _ _)
    | (with_reducible exact LeO.refl _)
    | (with_reducible exact LeO.none _)
    | (with_reducible refine LeO.ite ?_ ?_)
    | (with_reducible refine LeO.bind ?_ (fun _ => ?_))
    | exact ih0 _ _
    | exact LeO.none _
    | refine LeO.ite ?_ ?_
    | refine LeO.bind ?_ (fun _ => ?_)
theorem spec_NameOk.mono : ∀ a0 k, LeO (spec_NameOk.f k a0) (spec_NameOk.f (k + 1) a0) := by
 intro a0 k
 have ih0 := spec_NameOk.mono_l k
 unfold spec_NameOk.f
 repeat' first
  | (with_reducible exact ih0 _ _)
  | (with_reducible exact LeO.refl _)
  | (with_reducible exact LeO.none _)
  | (with_reducible refine LeO.ite ?_ ?_)
  | (with_reducible refine LeO.bind ?_ (fun _ => ?_))
  | exact ih0 _ _
  | exact LeO.none _
  | refine LeO.ite ?_ ?_
  | refine LeO.bind ?_ (fun _ => ?_)
set_option maxHeartbeats 8000000 in
set_option maxRecDepth 100000 in
theorem spec_NameOk.calls (k : Nat) (a0 : ByteArray) (r : Bool) (w : World) (h : spec_NameOk.f k a0 = some r) :
 Calls Try.prog 68 #[.string a0] w fun e w' => e = .returned (.bool r) ∧ Drawn0 w w' := by
 have H : ((spec_l01In.f (a0.size : Int) 1 12).bind fun t179 => (if t179 = true then (spec_NameOk.l0 k a0 0) else (some false))) = some r := h
 clear h
 obtain ⟨t179, A20, H⟩ := bo H
 have A2 := Aside0.mk A20
 clear A20
 by_cases c3 : t179 = true
 · subst c3
   replace H := iT H
   have H' := Aside0.mk H
   clear H
   go_enter Try.func68, Try.ntmps68
   go_wp2_with (first | ((with_reducible refine gate_callee (f := 69) rfl ?_); refine gl (some 7) Try.func69 #[.int .i64 (a0.size : Int), .int .i64 1, .int .i64 12] ?_; (with_reducible refine (spec_l01In.calls (a0.size : Int) 1 12 true _ A2.out).mono ?_); rintro e w' ⟨rfl, ⟨nd, rfl⟩⟩; refine ⟨_, rfl, ?_⟩))
   go_loopg [3] k (fun kq v3 w' => ∃ (x3_1 : Int), v3 = .int .i64 x3_1 ∧ Aside0 (spec_NameOk.l0 kq a0 x3_1 = some r) ∧ Aside0 (kq ≤ k) ∧ Drawn0 w w')
   case atStart => exact ⟨(0), es, H', ⟨Nat.le_refl _⟩, dr0⟩
   case round =>
    clear H'
    try clear p2
    try clear c3
    obtain ⟨x3_1, rfl, HA, HK1, ⟨m1, rfl⟩⟩ := hrel
    cases gk with
    | zero => exact absurd HA.out (by simp [spec_NameOk.l0])
    | succ k1 =>
     have H := HA.out
     clear HA
     simp only [spec_NameOk.l0] at H
     by_cases c4 : x3_1 < (a0.size : Int)
     · rw [if_pos c4] at H
       have c4b0 : decide (x3_1 < (a0.size : Int)) = true := decide_eq_true c4
       clear c4
       by_cases c5 : 0 ≤ x3_1
       · rw [if_pos c5] at H
         have c5b0 : decide (0 ≤ x3_1) = true := decide_eq_true c5
         clear c5
         by_cases c7 : (bt a0 x3_1) < 97
         · rw [if_pos c7] at H
           have c7b0 : decide ((bt a0 x3_1) < 97) = true := decide_eq_true c7
           clear c7
           by_cases c8 : (bt a0 x3_1) < 48
           · rw [if_pos c8] at H
             have c8b0 : decide ((bt a0 x3_1) < 48) = true := decide_eq_true c8
             clear c8
             obtain rfl := Option.some.inj H
             have p6 : 0 ≤ (x3_1 : Int) := of_decide_eq_true am
             have q6 : x3_1 < (a0.size : Int) := of_decide_eq_true am
             have hx6 := bt_at a0 x3_1
             replace p6 := eq_true p6
             replace q6 := eq_true q6
             go_wp2
             go_ret
             exact ⟨es, dr0⟩
           · rw [if_neg c8] at H
             have c8b0 : decide ((bt a0 x3_1) < 48) = false := decide_eq_false c8
             clear c8
             by_cases c9 : (bt a0 x3_1) > 57
             · rw [if_pos c9] at H
               have c9b0 : decide (57 < (bt a0 x3_1)) = true := decide_eq_true c9
               clear c9
               obtain rfl := Option.some.inj H
               have p6 : 0 ≤ (x3_1 : Int) := of_decide_eq_true am
               have q6 : x3_1 < (a0.size : Int) := of_decide_eq_true am
               have hx6 := bt_at a0 x3_1
               replace p6 := eq_true p6
               replace q6 := eq_true q6
               go_wp2
               go_ret
               exact ⟨es, dr0⟩
             · rw [if_neg c9] at H
               have c9b0 : decide (57 < (bt a0 x3_1)) = false := decide_eq_false c9
               clear c9
               have H' := Aside0.mk H
               clear H
               have p6 : 0 ≤ (x3_1 : Int) := of_decide_eq_true am
               have q6 : x3_1 < (a0.size : Int) := of_decide_eq_true am
               have hx6 := bt_at a0 x3_1
               replace p6 := eq_true p6
               replace q6 := eq_true q6
               go_wp2
               go_roundg k1
               case measure => have := HK1.out; omega
               case rel => exact ⟨(wrap64 (x3_1 + 1)), es, H', ⟨kp⟩, dr0⟩
         · rw [if_neg c7] at H
           have c7b0 : decide ((bt a0 x3_1) < 97) = false := decide_eq_false c7
           clear c7
           by_cases c10 : (bt a0 x3_1) > 122
           · rw [if_pos c10] at H
             have c10b0 : decide (122 < (bt a0 x3_1)) = true := decide_eq_true c10
             clear c10
             by_cases c11 : (bt a0 x3_1) < 48
             · rw [if_pos c11] at H
               have c11b0 : decide ((bt a0 x3_1) < 48) = true := decide_eq_true c11
               clear c11
               obtain rfl := Option.some.inj H
               have p6 : 0 ≤ (x3_1 : Int) := of_decide_eq_true am
               have q6 : x3_1 < (a0.size : Int) := of_decide_eq_true am
               have hx6 := bt_at a0 x3_1
               replace p6 := eq_true p6
               replace q6 := eq_true q6
               go_wp2
               go_ret
               exact ⟨es, dr0⟩
             · rw [if_neg c11] at H
               have c11b0 : decide ((bt a0 x3_1) < 48) = false := decide_eq_false c11
               clear c11
               by_cases c12 : (bt a0 x3_1) > 57
               · rw [if_pos c12] at H
                 have c12b0 : decide (57 < (bt a0 x3_1)) = true := decide_eq_true c12
                 clear c12
                 obtain rfl := Option.some.inj H
                 have p6 : 0 ≤ (x3_1 : Int) := of_decide_eq_true am
                 have q6 : x3_1 < (a0.size : Int) := of_decide_eq_true am
                 have hx6 := bt_at a0 x3_1
                 replace p6 := eq_true p6
                 replace q6 := eq_true q6
                 go_wp2
                 go_ret
                 exact ⟨es, dr0⟩
               · rw [if_neg c12] at H
                 have c12b0 : decide (57 < (bt a0 x3_1)) = false := decide_eq_false c12
                 clear c12
                 have H' := Aside0.mk H
                 clear H
                 have p6 : 0 ≤ (x3_1 : Int) := of_decide_eq_true am
                 have q6 : x3_1 < (a0.size : Int) := of_decide_eq_true am
                 have hx6 := bt_at a0 x3_1
                 replace p6 := eq_true p6
                 replace q6 := eq_true q6
                 go_wp2
                 go_roundg k1
                 case measure => have := HK1.out; omega
                 case rel => exact ⟨(wrap64 (x3_1 + 1)), es, H', ⟨kp⟩, dr0⟩
           · rw [if_neg c10] at H
             have c10b0 : decide (122 < (bt a0 x3_1)) = false := decide_eq_false c10
             clear c10
             have H' := Aside0.mk H
             clear H
             have p6 : 0 ≤ (x3_1 : Int) := of_decide_eq_true am
             have q6 : x3_1 < (a0.size : Int) := of_decide_eq_true am
             have hx6 := bt_at a0 x3_1
             replace p6 := eq_true p6
             replace q6 := eq_true q6
             go_wp2
             go_roundg k1
             case measure => have := HK1.out; omega
             case rel => exact ⟨(wrap64 (x3_1 + 1)), es, H', ⟨kp⟩, dr0⟩
       · rw [if_neg c5] at H
         exact absurd H (by simp)
     · rw [if_neg c4] at H
       have c4b0 : decide (x3_1 < (a0.size : Int)) = false := decide_eq_false c4
       clear c4
       obtain rfl := Option.some.inj H
       go_wp2
       go_ret
       exact ⟨es, dr0⟩
 · replace c3 := Bool.eq_false_iff.mpr c3
   subst c3
   replace H := iF H
   obtain rfl := Option.some.inj H
   go_enter Try.func68, Try.ntmps68
   go_wp2_with (first | ((with_reducible refine gate_callee (f := 69) rfl ?_); refine gl (some 7) Try.func69 #[.int .i64 (a0.size : Int), .int .i64 1, .int .i64 12] ?_; (with_reducible refine (spec_l01In.calls (a0.size : Int) 1 12 false _ A2.out).mono ?_); rintro e w' ⟨rfl, ⟨nd, rfl⟩⟩; refine ⟨_, rfl, ?_⟩))
   go_ret
   exact ⟨es, dr0⟩

end Go.Proofs.Ytplekidnlofioaa.Q
namespace Go.Proofs.Ytplekidnlofioaa.Q
open Go.RowKit Go.Proofs.YtplekidnlofioaaW.PrintWords Go.Proofs.YtplekidnlofioaaW.PrintLast Go.Proofs.YtplekidnlofioaaW.PrintMore
attribute [local go_sem] max2_int min2_int max_two min_two max_three min_three max_four min_four   -- for this text's walks alone
set_option linter.unusedVariables false
set_option linter.unusedSimpArgs false

/-! ### impl_in: function 124 -/
def impl_in.f (a0 : Int) (a1 : Int) (a2 : Int) : Option (Bool) := if a0 ≥ a1 then (some (decide (a0 ≤ a2))) else (some false)
set_option maxHeartbeats 8000000 in
set_option maxRecDepth 100000 in
theorem impl_in.calls (a0 : Int) (a1 : Int) (a2 : Int) (r : Bool) (w : World) (h : impl_in.f a0 a1 a2 = some r) :
 Calls Try.prog 124 #[.int .i64 a0, .int .i64 a1, .int .i64 a2] w fun e w' => e = .returned (.bool r) ∧ Drawn0 w w' := by
 have H : (if a0 ≥ a1 then (some (decide (a0 ≤ a2))) else (some false)) = some r := h
 clear h
 by_cases c4 : a0 ≥ a1
 · rw [if_pos c4] at H
   have c4b0 : decide (a1 ≤ a0) = true := decide_eq_true c4
   clear c4
   obtain rfl := Option.some.inj H
   go_enter Try.func124, Try.ntmps124
   go_wp2
   go_ret
   exact ⟨es, dr0⟩
 · rw [if_neg c4] at H
   have c4b0 : decide (a1 ≤ a0) = false := decide_eq_false c4
   clear c4
   obtain rfl := Option.some.inj H
   go_enter Try.func124, Try.ntmps124
   go_wp2
   go_ret
   exact ⟨es, dr0⟩

end Go.Proofs.Ytplekidnlofioaa.Q
namespace Go.Proofs.Ytplekidnlofioaa.Q
open Go.RowKit Go.Proofs.YtplekidnlofioaaW.PrintWords Go.Proofs.YtplekidnlofioaaW.PrintLast Go.Proofs.YtplekidnlofioaaW.PrintMore
attribute [local go_sem] max2_int min2_int max_two min_two max_three min_three max_four min_four   -- for this text's walks alone
set_option linter.unusedVariables false
set_option linter.unusedSimpArgs false

/-! ### impl_NameOk: function 151 -/
def impl_NameOk.l0 : Nat → ByteArray → Int → Int → Option (Bool)
 | 0, _, _, _ => none
 | k + 1, x0, x6, x7 => if x7 < x6 then (if 0 ≤ x7 then (if x7 < (x0.size : Int) then (if (bt x0 x7) < 97 then (if (bt x0 x7) < 48 then (some false) else (if (bt x0 x7) > 57 then (some false) else (impl_NameOk.l0 k x0 x6 (wrap64 (x7 + 1))))) else (if (bt x0 x7) > 122 then (if (bt x0 x7) < 48 then (some false) else (if (bt x0 x7) > 57 then (some false) else (impl_NameOk.l0 k x0 x6 (wrap64 (x7 + 1))))) else (impl_NameOk.l0 k x0 x6 (wrap64 (x7 + 1))))) else (none)) else (none)) else ((impl_in.f (x0.size : Int) 1 12).bind fun t104 => (some t104))
def impl_NameOk.f (k : Nat) (a0 : ByteArray) : Option (Bool) := impl_NameOk.l0 k a0 (a0.size : Int) 0
theorem impl_NameOk.mono_l : ∀ k, (∀ y0 y1 y2, LeO (impl_NameOk.l0 k y0 y1 y2) (impl_NameOk.l0 (k + 1) y0 y1 y2))
 | 0 => fun _ _ _ r h => by simp [impl_NameOk.l0] at h
 | k + 1 => by
  have ih0 := impl_NameOk.mono_l k
  · intro y0 y1 y2
    unfold impl_NameOk.l0
    repeat' first
    | (with_reducible exact ih0 _ _ _)
    | (with_reducible exact LeO.refl _)
    | (with_reducible exact LeO.none _)
    | (with_reducible refine LeO.ite ?_ ?_)
    | (with_reducible refine LeO.bind ?_ (fun _ => ?_))
    | exact ih0 _ _ _
    | exact LeO.none _
    | refine LeO.ite ?_ ?_
    | refine LeO.bind ?_ (fun _ => ?_)
theorem impl_NameOk.mono : ∀ a0 k, LeO (impl_NameOk.f k a0) (impl_NameOk.f (k + 1) a0) := by
 intro a0 k
 have ih0 := impl_NameOk.mono_l k
 unfold impl_NameOk.f
 repeat' first
  | (with_reducible exact ih0 _ _ _)
  | (with_reducible exact LeO.refl _)
  | (with_reducible exact LeO.none _)
  | (with_reducible refine LeO.ite ?_ ?_)
  | (with_reducible refine LeO.bind ?_ (fun _ => ?_))
  | exact ih0 _ _ _
  | exact LeO.none _
  | refine LeO.ite ?_ ?_
  | refine LeO.bind ?_ (fun _ => ?_)
set_option maxHeartbeats 8000000 in
set_option maxRecDepth 100000 in
theorem impl_NameOk.calls (k : Nat) (a0 : ByteArray) (r : Bool) (w : World) (h : impl_NameOk.f k a0 = some r) :
 Calls Try.prog 151 #[.string a0] w fun e w' => e = .returned (.bool r) ∧ Drawn0 w w' := by
 have H : (impl_NameOk.l0 k a0 (a0.size : Int) 0) = some r := h
 clear h
 have H' := Aside0.mk H
 clear H
 go_enter Try.func151, Try.ntmps151
 go_wp2
 go_loopg [7] k (fun kq v7 w' => ∃ (x7_1 : Int), v7 = .int .i64 x7_1 ∧ Aside0 (impl_NameOk.l0 kq a0 (a0.size : Int) x7_1 = some r) ∧ Aside0 (kq ≤ k) ∧ Drawn0 w w')
 case atStart => exact ⟨(0), es, H', ⟨Nat.le_refl _⟩, dr0⟩
 case round =>
  clear H'
  try clear c1
  obtain ⟨x7_1, rfl, HA, HK1, ⟨m1, rfl⟩⟩ := hrel
  cases gk with
  | zero => exact absurd HA.out (by simp [impl_NameOk.l0])
  | succ k1 =>
   have H := HA.out
   clear HA
   simp only [impl_NameOk.l0] at H
   by_cases c2 : x7_1 < (a0.size : Int)
   · rw [if_pos c2] at H
     have c2b0 : decide (x7_1 < (a0.size : Int)) = true := decide_eq_true c2
     clear c2
     by_cases c3 : 0 ≤ x7_1
     · rw [if_pos c3] at H
       have c3b0 : decide (0 ≤ x7_1) = true := decide_eq_true c3
       clear c3
       by_cases c4 : x7_1 < (a0.size : Int)
       · rw [if_pos c4] at H
         have c4b0 : decide (x7_1 < (a0.size : Int)) = true := decide_eq_true c4
         clear c4
         by_cases c6 : (bt a0 x7_1) < 97
         · rw [if_pos c6] at H
           have c6b0 : decide ((bt a0 x7_1) < 97) = true := decide_eq_true c6
           clear c6
           by_cases c7 : (bt a0 x7_1) < 48
           · rw [if_pos c7] at H
             have c7b0 : decide ((bt a0 x7_1) < 48) = true := decide_eq_true c7
             clear c7
             obtain rfl := Option.some.inj H
             have p5 : 0 ≤ (x7_1 : Int) := of_decide_eq_true am
             have q5 : x7_1 < (a0.size : Int) := of_decide_eq_true am
             have hx5 := bt_at a0 x7_1
             replace p5 := eq_true p5
             replace q5 := eq_true q5
             go_wp2
             go_ret
             exact ⟨es, dr0⟩
           · rw [if_neg c7] at H
             have c7b0 : decide ((bt a0 x7_1) < 48) = false := decide_eq_false c7
             clear c7
             by_cases c8 : (bt a0 x7_1) > 57
             · rw [if_pos c8] at H
               have c8b0 : decide (57 < (bt a0 x7_1)) = true := decide_eq_true c8
               clear c8
               obtain rfl := Option.some.inj H
               have p5 : 0 ≤ (x7_1 : Int) := of_decide_eq_true am
               have q5 : x7_1 < (a0.size : Int) := of_decide_eq_true am
               have hx5 := bt_at a0 x7_1
               replace p5 := eq_true p5
               replace q5 := eq_true q5
               go_wp2
               go_ret
               exact ⟨es, dr0⟩
             · rw [if_neg c8] at H
               have c8b0 : decide (57 < (bt a0 x7_1)) = false := decide_eq_false c8
               clear c8
               have H' := Aside0.mk H
               clear H
               have p5 : 0 ≤ (x7_1 : Int) := of_decide_eq_true am
               have q5 : x7_1 < (a0.size : Int) := of_decide_eq_true am
               have hx5 := bt_at a0 x7_1
               replace p5 := eq_true p5
               replace q5 := eq_true q5
               go_wp2
               go_roundg k1
               case measure => have := HK1.out; omega
               case rel => exact ⟨(wrap64 (x7_1 + 1)), es, H', ⟨kp⟩, dr0⟩
         · rw [if_neg c6] at H
           have c6b0 : decide ((bt a0 x7_1) < 97) = false := decide_eq_false c6
           clear c6
           by_cases c9 : (bt a0 x7_1) > 122
           · rw [if_pos c9] at H
             have c9b0 : decide (122 < (bt a0 x7_1)) = true := decide_eq_true c9
             clear c9
             by_cases c10 : (bt a0 x7_1) < 48
             · rw [if_pos c10] at H
               have c10b0 : decide ((bt a0 x7_1) < 48) = true := decide_eq_true c10
               clear c10
               obtain rfl := Option.some.inj H
               have p5 : 0 ≤ (x7_1 : Int) := of_decide_eq_true am
               have q5 : x7_1 < (a0.size : Int) := of_decide_eq_true am
               have hx5 := bt_at a0 x7_1
               replace p5 := eq_true p5
               replace q5 := eq_true q5
               go_wp2
               go_ret
               exact ⟨es, dr0⟩
             · rw [if_neg c10] at H
               have c10b0 : decide ((bt a0 x7_1) < 48) = false := decide_eq_false c10
               clear c10
               by_cases c11 : (bt a0 x7_1) > 57
               · rw [if_pos c11] at H
                 have c11b0 : decide (57 < (bt a0 x7_1)) = true := decide_eq_true c11
                 clear c11
                 obtain rfl := Option.some.inj H
                 have p5 : 0 ≤ (x7_1 : Int) := of_decide_eq_true am
                 have q5 : x7_1 < (a0.size : Int) := of_decide_eq_true am
                 have hx5 := bt_at a0 x7_1
                 replace p5 := eq_true p5
                 replace q5 := eq_true q5
                 go_wp2
                 go_ret
                 exact ⟨es, dr0⟩
               · rw [if_neg c11] at H
                 have c11b0 : decide (57 < (bt a0 x7_1)) = false := decide_eq_false c11
                 clear c11
                 have H' := Aside0.mk H
                 clear H
                 have p5 : 0 ≤ (x7_1 : Int) := of_decide_eq_true am
                 have q5 : x7_1 < (a0.size : Int) := of_decide_eq_true am
                 have hx5 := bt_at a0 x7_1
                 replace p5 := eq_true p5
                 replace q5 := eq_true q5
                 go_wp2
                 go_roundg k1
                 case measure => have := HK1.out; omega
                 case rel => exact ⟨(wrap64 (x7_1 + 1)), es, H', ⟨kp⟩, dr0⟩
           · rw [if_neg c9] at H
             have c9b0 : decide (122 < (bt a0 x7_1)) = false := decide_eq_false c9
             clear c9
             have H' := Aside0.mk H
             clear H
             have p5 : 0 ≤ (x7_1 : Int) := of_decide_eq_true am
             have q5 : x7_1 < (a0.size : Int) := of_decide_eq_true am
             have hx5 := bt_at a0 x7_1
             replace p5 := eq_true p5
             replace q5 := eq_true q5
             go_wp2
             go_roundg k1
             case measure => have := HK1.out; omega
             case rel => exact ⟨(wrap64 (x7_1 + 1)), es, H', ⟨kp⟩, dr0⟩
       · rw [if_neg c4] at H
         exact absurd H (by simp)
     · rw [if_neg c3] at H
       exact absurd H (by simp)
   · rw [if_neg c2] at H
     have c2b0 : decide (x7_1 < (a0.size : Int)) = false := decide_eq_false c2
     clear c2
     obtain ⟨t104, A120, H⟩ := bo H
     have A12 := Aside0.mk A120
     clear A120
     obtain rfl := Option.some.inj H
     go_wp2_with (first | ((with_reducible refine gate_callee (f := 124) rfl ?_); refine gl (some 30) Try.func124 #[.int .i64 (a0.size : Int), .int .i64 1, .int .i64 12] ?_; (with_reducible refine (impl_in.calls (a0.size : Int) 1 12 t104 _ A12.out).mono ?_); rintro e w' ⟨rfl, ⟨nd, rfl⟩⟩; refine ⟨_, rfl, ?_⟩))
     go_ret
     exact ⟨es, dr0⟩

end Go.Proofs.Ytplekidnlofioaa.Q
namespace Go.Proofs.Ytplekidnlofioaa.Q
open Go.RowKit Go.Proofs.YtplekidnlofioaaW.PrintWords Go.Proofs.YtplekidnlofioaaW.PrintLast Go.Proofs.YtplekidnlofioaaW.PrintMore
attribute [local go_sem] max2_int min2_int max_two min_two max_three min_three max_four min_four   -- for this text's walks alone
set_option linter.unusedVariables false
set_option linter.unusedSimpArgs false

/-! ### spec_l02Less: function 130 -/
mutual
def spec_l02Less.l0 : Nat → ByteArray → ByteArray → Int → Option (Bool)
 | 0, _, _, _ => none
 | k + 1, x0, x1, x5 => if x5 < (x0.size : Int) then (spec_l02Less.j1 k x0 x1 x5 (decide (x5 < (x1.size : Int)))) else (spec_l02Less.j1 k x0 x1 x5 false)
def spec_l02Less.j1 : Nat → ByteArray → ByteArray → Int → Bool → Option (Bool)
 | 0, _, _, _, _ => none
 | k + 1, x0, x1, x5, x15 => if x15 = true then (if 0 ≤ x5 then (if x5 < (x0.size : Int) then (if x5 < (x1.size : Int) then (if (bt x0 x5) = (bt x1 x5) then (spec_l02Less.l0 k x0 x1 (wrap64 (x5 + 1))) else (some (decide ((bt x0 x5) < (bt x1 x5))))) else (none)) else (none)) else (none)) else (some (decide ((x0.size : Int) < (x1.size : Int))))
end
def spec_l02Less.f (k : Nat) (a0 : ByteArray) (a1 : ByteArray) : Option (Bool) := spec_l02Less.l0 k a0 a1 0
theorem spec_l02Less.mono_l : ∀ k, (∀ y0 y1 y2, LeO (spec_l02Less.l0 k y0 y1 y2) (spec_l02Less.l0 (k + 1) y0 y1 y2)) ∧ (∀ y0 y1 y2 y3, LeO (spec_l02Less.j1 k y0 y1 y2 y3) (spec_l02Less.j1 (k + 1) y0 y1 y2 y3))
 | 0 => ⟨fun _ _ _ r h => by simp [spec_l02Less.l0] at h, fun _ _ _ _ r h => by simp [spec_l02Less.j1] at h⟩
 | k + 1 => by
  obtain ⟨ih0, ih1⟩ := spec_l02Less.mono_l k
  refine ⟨?_, ?_⟩
  · intro y0 y1 y2
    unfold spec_l02Less.l0
    repeat' first
    | (with_reducible exact ih0 _ _ _)
    | (with_reducible exact ih1 _ _ _ _)
    | (with_reducible exact LeO.refl _)
    | (with_reducible exact LeO.none _)
    | (with_reducible refine LeO.ite ?_ ?_)
    | (with_reducible refine LeO.bind ?_ (fun _ => ?_))
    | exact ih0 _ _ _
    | exact ih1 _ _ _ _
    | exact LeO.none _
    | refine LeO.ite ?_ ?_
    | refine LeO.bind ?_ (fun _ => ?_)
  · intro y0 y1 y2 y3
    unfold spec_l02Less.j1
    repeat' first
    | (with_reducible exact ih0 _ _ _)
    | (with_reducible exact ih1 _ _ _ _)
    | (with_reducible exact LeO.refl _)
    | (with_reducible exact LeO.none _)
    | (with_reducible refine LeO.ite ?_ ?_)
    | (with_reducible refine LeO.bind ?_ (fun _ => ?_))
    | exact ih0 _ _ _
    | exact ih1 _ _ _ _
    | exact LeO.none _
    | refine LeO.ite ?_ ?_
    | refine LeO.bind ?_ (fun _ => ?_)
theorem spec_l02Less.mono : ∀ a0 a1 k, LeO (spec_l02Less.f k a0 a1) (spec_l02Less.f (k + 1) a0 a1) := by
 intro a0 a1 k
 obtain ⟨ih0, ih1⟩ := spec_l02Less.mono_l k
 unfold spec_l02Less.f
 repeat' first
  | (with_reducible exact ih0 _ _ _)
  | (with_reducible exact ih1 _ _ _ _)
  | (with_reducible exact LeO.refl _)
  | (with_reducible exact LeO.none _)
  | (with_reducible refine LeO.ite ?_ ?_)
  | (with_reducible refine LeO.bind ?_ (fun _ => ?_))
  | exact ih0 _ _ _
  | exact ih1 _ _ _ _
  | exact LeO.none _
  | refine LeO.ite ?_ ?_
  | refine LeO.bind ?_ (fun _ => ?_)
set_option maxHeartbeats 8000000 in
set_option maxRecDepth 100000 in
theorem spec_l02Less.calls (k : Nat) (a0 : ByteArray) (a1 : ByteArray) (r : Bool) (w : World) (h : spec_l02Less.f k a0 a1 = some r) :
 Calls Try.prog 130 #[.string a0, .string a1] w fun e w' => e = .returned (.bool r) ∧ Drawn0 w w' := by
 have H : (spec_l02Less.l0 k a0 a1 0) = some r := h
 clear h
 have H' := Aside0.mk H
 clear H
 go_enter Try.func130, Try.ntmps130
 go_wp2
 repeat (go_quiet (fail); try go_wp2)
 go_loopg [5] k (fun kq v5 w' => ∃ (x5_1 : Int), v5 = .int .i64 x5_1 ∧ Aside0 (spec_l02Less.l0 kq a0 a1 x5_1 = some r) ∧ Aside0 (kq ≤ k) ∧ Drawn0 w w')
 case atStart => exact ⟨(0), es, H', ⟨Nat.le_refl _⟩, dr0⟩
 case round =>
  clear H'
  try clear c1
  try clear p2
  obtain ⟨x5_1, rfl, HA, HK1, ⟨m1, rfl⟩⟩ := hrel
  cases gk with
  | zero => exact absurd HA.out (by simp [spec_l02Less.l0])
  | succ k1 =>
   have H := HA.out
   clear HA
   simp only [spec_l02Less.l0] at H
   have HC3 := Aside0.mk H
   clear H
   go_upto_region 2 with (fail)
   repeat (go_quiet (fail); go_upto_region 2 with (fail))
   go_cut [15] (fun v15 wc => ∃ (kq : Nat) (x15_2 : Bool), v15 = .bool x15_2 ∧ Aside0 (spec_l02Less.j1 kq a0 a1 x5_1 x15_2 = some r) ∧ Aside0 (kq ≤ k1) ∧ Drawn0 w wc)
   case first =>
    have H := HC3.out
    clear HC3
    by_cases c4 : x5_1 < (a0.size : Int)
    · rw [if_pos c4] at H
      have c4b0 : decide (x5_1 < (a0.size : Int)) = true := decide_eq_true c4
      clear c4
      (first | rw [c4b0] | (simp only [i64_w, i32_w]; rw [c4b0]) | skip)
      have H' := Aside0.mk H
      clear H
      go_wp2
      repeat (go_quiet (fail); try go_wp2)
      go_meet
      case rel => exact ⟨_, (decide (x5_1 < (a1.size : Int))), es, H', ⟨ko⟩, dr0⟩
    · rw [if_neg c4] at H
      have c4b0 : decide (x5_1 < (a0.size : Int)) = false := decide_eq_false c4
      clear c4
      (first | rw [c4b0] | (simp only [i64_w, i32_w]; rw [c4b0]) | skip)
      have H' := Aside0.mk H
      clear H
      go_wp2
      repeat (go_quiet (fail); try go_wp2)
      go_meet
      case rel => exact ⟨_, (false), es, H', ⟨ko⟩, dr0⟩
   case rest =>
    clear HC3
    try clear c1
    try clear p2
    try clear c4
    try clear c4b0
    try clear p2
    obtain ⟨kq, x15_2, rfl, HA, HJ2, ⟨mc2, rfl⟩⟩ := hcut
    cases kq with
    | zero => exact absurd HA.out (by simp [spec_l02Less.j1])
    | succ kj2 =>
     have H := HA.out
     clear HA
     simp only [spec_l02Less.j1] at H
     by_cases c5 : x15_2 = true
     · subst c5
       replace H := iT H
       by_cases c6 : 0 ≤ x5_1
       · rw [if_pos c6] at H
         have c6b0 : decide (0 ≤ x5_1) = true := decide_eq_true c6
         clear c6
         by_cases c7 : x5_1 < (a0.size : Int)
         · rw [if_pos c7] at H
           have c7b0 : decide (x5_1 < (a0.size : Int)) = true := decide_eq_true c7
           clear c7
           by_cases c9 : x5_1 < (a1.size : Int)
           · rw [if_pos c9] at H
             have c9b0 : decide (x5_1 < (a1.size : Int)) = true := decide_eq_true c9
             clear c9
             by_cases c11 : (bt a0 x5_1) = (bt a1 x5_1)
             · rw [if_pos c11] at H
               have c11b0 : ((bt a0 x5_1) == (bt a1 x5_1)) = true := beq_iff_eq.mpr c11
               have c11b1 : ((bt a0 x5_1) != (bt a1 x5_1)) = false := bne_eq_false_iff_eq.mpr c11
               clear c11
               have H' := Aside0.mk H
               clear H
               have p8 : 0 ≤ (x5_1 : Int) := of_decide_eq_true am
               have q8 : x5_1 < (a0.size : Int) := of_decide_eq_true am
               have hx8 := bt_at a0 x5_1
               replace p8 := eq_true p8
               replace q8 := eq_true q8
               have p10 : 0 ≤ (x5_1 : Int) := of_decide_eq_true am
               have q10 : x5_1 < (a1.size : Int) := of_decide_eq_true am
               have hx10 := bt_at a1 x5_1
               replace p10 := eq_true p10
               replace q10 := eq_true q10
               go_wp2
               repeat (go_quiet (fail); try go_wp2)
               go_roundg kj2
               case measure => have := HK1.out; have := HJ2.out; omega
               case rel => exact ⟨(wrap64 (x5_1 + 1)), es, H', ⟨by have := HK1.out; have := HJ2.out; omega⟩, dr0⟩
             · rw [if_neg c11] at H
               have c11b0 : ((bt a0 x5_1) == (bt a1 x5_1)) = false := beq_eq_false_iff_ne.mpr c11
               have c11b1 : ((bt a0 x5_1) != (bt a1 x5_1)) = true := bne_iff_ne.mpr c11
               obtain rfl := Option.some.inj H
               have p8 : 0 ≤ (x5_1 : Int) := of_decide_eq_true am
               have q8 : x5_1 < (a0.size : Int) := of_decide_eq_true am
               have hx8 := bt_at a0 x5_1
               replace p8 := eq_true p8
               replace q8 := eq_true q8
               have p10 : 0 ≤ (x5_1 : Int) := of_decide_eq_true am
               have q10 : x5_1 < (a1.size : Int) := of_decide_eq_true am
               have hx10 := bt_at a1 x5_1
               replace p10 := eq_true p10
               replace q10 := eq_true q10
               have p12 : 0 ≤ (x5_1 : Int) := of_decide_eq_true am
               have q12 : x5_1 < (a0.size : Int) := of_decide_eq_true am
               have hx12 := bt_at a0 x5_1
               replace p12 := eq_true p12
               replace q12 := eq_true q12
               have p13 : 0 ≤ (x5_1 : Int) := of_decide_eq_true am
               have q13 : x5_1 < (a1.size : Int) := of_decide_eq_true am
               have hx13 := bt_at a1 x5_1
               replace p13 := eq_true p13
               replace q13 := eq_true q13
               go_wp2
               repeat (go_quiet (fail); try go_wp2)
               go_ret
               exact ⟨es, dr0⟩
           · rw [if_neg c9] at H
             exact absurd H (by simp)
         · rw [if_neg c7] at H
           exact absurd H (by simp)
       · rw [if_neg c6] at H
         exact absurd H (by simp)
     · replace c5 := Bool.eq_false_iff.mpr c5
       subst c5
       replace H := iF H
       obtain rfl := Option.some.inj H
       go_wp2
       repeat (go_quiet (fail); try go_wp2)
       go_ret
       exact ⟨es, dr0⟩

end Go.Proofs.Ytplekidnlofioaa.Q
namespace Go.Proofs.Ytplekidnlofioaa.Q
open Go.RowKit Go.Proofs.YtplekidnlofioaaW.PrintWords Go.Proofs.YtplekidnlofioaaW.PrintLast Go.Proofs.YtplekidnlofioaaW.PrintMore
attribute [local go_sem] max2_int min2_int max_two min_two max_three min_three max_four min_four   -- for this text's walks alone
set_option linter.unusedVariables false
set_option linter.unusedSimpArgs false

/-! ### spec_l03Before: function 70 -/
def spec_l03Before.f (k : Nat) (a0 : ByteArray) (a1 : ByteArray) (a2 : ByteArray) (a3 : ByteArray) : Option (Bool) := if a0.toList = a2.toList then ((spec_l02Less.f k a1 a3).bind fun t180 => (some t180)) else ((spec_l02Less.f k a0 a2).bind fun t181 => (some t181))
theorem spec_l03Before.mono : ∀ a0 a1 a2 a3 k, LeO (spec_l03Before.f k a0 a1 a2 a3) (spec_l03Before.f (k + 1) a0 a1 a2 a3) := by
 intro a0 a1 a2 a3 k
 unfold spec_l03Before.f
 repeat' first
  | (with_reducible exact spec_l02Less.mono _ _ _)
  | (with_reducible exact LeO.refl _)
  | (with_reducible exact LeO.none _)
  | (with_reducible refine LeO.ite ?_ ?_)
  | (with_reducible refine LeO.bind ?_ (fun _ => ?_))
  | exact spec_l02Less.mono _ _ _
  | exact LeO.none _
  | refine LeO.ite ?_ ?_
  | refine LeO.bind ?_ (fun _ => ?_)
set_option maxHeartbeats 8000000 in
set_option maxRecDepth 100000 in
theorem spec_l03Before.calls (k : Nat) (a0 : ByteArray) (a1 : ByteArray) (a2 : ByteArray) (a3 : ByteArray) (r : Bool) (w : World) (h : spec_l03Before.f k a0 a1 a2 a3 = some r) :
 Calls Try.prog 70 #[.string a0, .string a1, .string a2, .string a3] w fun e w' => e = .returned (.bool r) ∧ Drawn0 w w' := by
 have H : (if a0.toList = a2.toList then ((spec_l02Less.f k a1 a3).bind fun t180 => (some t180)) else ((spec_l02Less.f k a0 a2).bind fun t181 => (some t181))) = some r := h
 clear h
 by_cases c5 : a0.toList = a2.toList
 · rw [if_pos c5] at H
   have c5b0 : (a0.toList == a2.toList) = true := beq_iff_eq.mpr c5
   have c5b1 : (a0.toList != a2.toList) = false := bne_eq_false_iff_eq.mpr c5
   clear c5
   obtain ⟨t180, A60, H⟩ := bo H
   have A6 := Aside0.mk A60
   clear A60
   obtain rfl := Option.some.inj H
   go_enter Try.func70, Try.ntmps70
   go_wp2_with (first | ((with_reducible refine gate_callee (f := 130) rfl ?_); refine gl (some 17) Try.func130 #[.string a1, .string a3] ?_; (with_reducible refine (spec_l02Less.calls k a1 a3 t180 _ A6.out).mono ?_); rintro e w' ⟨rfl, ⟨nd, rfl⟩⟩; refine ⟨_, rfl, ?_⟩))
   go_ret
   exact ⟨es, dr0⟩
 · rw [if_neg c5] at H
   have c5b0 : (a0.toList == a2.toList) = false := beq_eq_false_iff_ne.mpr c5
   have c5b1 : (a0.toList != a2.toList) = true := bne_iff_ne.mpr c5
   obtain ⟨t181, A70, H⟩ := bo H
   have A7 := Aside0.mk A70
   clear A70
   obtain rfl := Option.some.inj H
   go_enter Try.func70, Try.ntmps70
   go_wp2_with (first | ((with_reducible refine gate_callee (f := 130) rfl ?_); refine gl (some 14) Try.func130 #[.string a0, .string a2] ?_; (with_reducible refine (spec_l02Less.calls k a0 a2 t181 _ A7.out).mono ?_); rintro e w' ⟨rfl, ⟨nd, rfl⟩⟩; refine ⟨_, rfl, ?_⟩))
   go_ret
   exact ⟨es, dr0⟩

end Go.Proofs.Ytplekidnlofioaa.Q
namespace Go.Proofs.Ytplekidnlofioaa.Q
open Go.RowKit Go.Proofs.YtplekidnlofioaaW.PrintWords Go.Proofs.YtplekidnlofioaaW.PrintLast Go.Proofs.YtplekidnlofioaaW.PrintMore
attribute [local go_sem] max2_int min2_int max_two min_two max_three min_three max_four min_four   -- for this text's walks alone
set_option linter.unusedVariables false
set_option linter.unusedSimpArgs false

/-! ### cmp_Or_int: function 152 -/
def cmp_Or_int.l0 : Nat → Int → List Int → Int → Int → Option (Int)
 | 0, _, _, _, _ => none
 | k + 1, x3, x6, x7, x8 => if x8 < x7 then (if 0 ≤ x8 then (if x8 < (x6.length : Int) then (if (rd x6 x8) = x3 then (cmp_Or_int.l0 k x3 x6 x7 (wrap64 (x8 + 1))) else (some (rd x6 x8))) else (none)) else (none)) else (some x3)
def cmp_Or_int.f (k : Nat) (l0 : List Int) : Option (Int) := cmp_Or_int.l0 k 0 l0 (l0.length : Int) 0
theorem cmp_Or_int.mono_l : ∀ k, (∀ y0 y1 y2 y3, LeO (cmp_Or_int.l0 k y0 y1 y2 y3) (cmp_Or_int.l0 (k + 1) y0 y1 y2 y3))
 | 0 => fun _ _ _ _ r h => by simp [cmp_Or_int.l0] at h
 | k + 1 => by
  have ih0 := cmp_Or_int.mono_l k
  · intro y0 y1 y2 y3
    unfold cmp_Or_int.l0
    repeat' first
    | (with_reducible exact ih0 _ _ _ _)
    | (with_reducible exact LeO.refl _)
    | (with_reducible exact LeO.none _)
    | (with_reducible refine LeO.ite ?_ ?_)
    | (with_reducible refine LeO.bind ?_ (fun _ => ?_))
    | exact ih0 _ _ _ _
    | exact LeO.none _
    | refine LeO.ite ?_ ?_
    | refine LeO.bind ?_ (fun _ => ?_)
theorem cmp_Or_int.mono : ∀ a0 k, LeO (cmp_Or_int.f k a0) (cmp_Or_int.f (k + 1) a0) := by
 intro a0 k
 have ih0 := cmp_Or_int.mono_l k
 unfold cmp_Or_int.f
 repeat' first
  | (with_reducible exact ih0 _ _ _ _)
  | (with_reducible exact LeO.refl _)
  | (with_reducible exact LeO.none _)
  | (with_reducible refine LeO.ite ?_ ?_)
  | (with_reducible refine LeO.bind ?_ (fun _ => ?_))
  | exact ih0 _ _ _ _
  | exact LeO.none _
  | refine LeO.ite ?_ ?_
  | refine LeO.bind ?_ (fun _ => ?_)
set_option maxHeartbeats 8000000 in
set_option maxRecDepth 100000 in
theorem cmp_Or_int.calls (k : Nat) (A0 : Option Addr) (c0 : Nat) (l0 : List Int) (r : Int) (w : World) (hr0 : Kd.C (Kd.int .i64) w A0 l0.length l0) (hc0 : l0.length ≤ c0) (h : cmp_Or_int.f k l0 = some r) :
 Calls Try.prog 152 #[.slice A0 l0.length c0] w fun e w' => e = .returned (.int .i64 r) ∧ Drawn0 w w' := by
 have HR0 := Aside0.mk hr0
 have HC0 := Aside0.mk hc0
 clear hr0 hc0
 have H : (cmp_Or_int.l0 k 0 l0 (l0.length : Int) 0) = some r := h
 clear h
 have H' := Aside0.mk H
 clear H
 go_enter Try.func152, Try.ntmps152
 go_wp2
 go_loopg [8] k (fun kq v8 w' => ∃ (x8_1 : Int), v8 = .int .i64 x8_1 ∧ Aside0 (cmp_Or_int.l0 kq 0 l0 (l0.length : Int) x8_1 = some r) ∧ Aside0 (kq ≤ k) ∧ Drawn0 w w')
 case atStart => exact ⟨(0), es, H', ⟨Nat.le_refl _⟩, dr0⟩
 case round =>
  clear H'
  try clear c1
  obtain ⟨x8_1, rfl, HA, HK1, ⟨m1, rfl⟩⟩ := hrel
  cases gk with
  | zero => exact absurd HA.out (by simp [cmp_Or_int.l0])
  | succ k1 =>
   have H := HA.out
   clear HA
   simp only [cmp_Or_int.l0] at H
   by_cases c2 : x8_1 < (l0.length : Int)
   · rw [if_pos c2] at H
     have c2b0 : decide (x8_1 < (l0.length : Int)) = true := decide_eq_true c2
     clear c2
     by_cases c3 : 0 ≤ x8_1
     · rw [if_pos c3] at H
       have c3b0 : decide (0 ≤ x8_1) = true := decide_eq_true c3
       clear c3
       by_cases c4 : x8_1 < (l0.length : Int)
       · rw [if_pos c4] at H
         have c4b0 : decide (x8_1 < (l0.length : Int)) = true := decide_eq_true c4
         clear c4
         by_cases c5 : (rd l0 x8_1) = 0
         · rw [if_pos c5] at H
           have c5b0 : ((rd l0 x8_1) == 0) = true := beq_iff_eq.mpr c5
           have c5b1 : ((rd l0 x8_1) != 0) = false := bne_eq_false_iff_eq.mpr c5
           clear c5
           have H' := Aside0.mk H
           clear H
           have p114 : 0 ≤ (x8_1 : Int) := of_decide_eq_true am
           have q114 : x8_1 < (l0.length : Int) := of_decide_eq_true am
           obtain ⟨ad114, e114, hx114_0⟩ := Kd.at_int HR0.out x8_1 p114 q114
           cases e114
           replace p114 := eq_true p114
           replace q114 := eq_true q114
           go_wp2
           go_roundg k1
           case measure => have := HK1.out; omega
           case rel => exact ⟨(wrap64 (x8_1 + 1)), es, H', ⟨kp⟩, dr0⟩
         · rw [if_neg c5] at H
           have c5b0 : ((rd l0 x8_1) == 0) = false := beq_eq_false_iff_ne.mpr c5
           have c5b1 : ((rd l0 x8_1) != 0) = true := bne_iff_ne.mpr c5
           obtain rfl := Option.some.inj H
           have p114 : 0 ≤ (x8_1 : Int) := of_decide_eq_true am
           have q114 : x8_1 < (l0.length : Int) := of_decide_eq_true am
           obtain ⟨ad114, e114, hx114_0⟩ := Kd.at_int HR0.out x8_1 p114 q114
           cases e114
           replace p114 := eq_true p114
           replace q114 := eq_true q114
           go_wp2
           go_ret
           exact ⟨es, dr0⟩
       · rw [if_neg c4] at H
         exact absurd H (by simp)
     · rw [if_neg c3] at H
       exact absurd H (by simp)
   · rw [if_neg c2] at H
     have c2b0 : decide (x8_1 < (l0.length : Int)) = false := decide_eq_false c2
     clear c2
     obtain rfl := Option.some.inj H
     go_wp2
     go_ret
     exact ⟨es, dr0⟩

end Go.Proofs.Ytplekidnlofioaa.Q
namespace Go.Proofs.Ytplekidnlofioaa.Q
open Go.RowKit Go.Proofs.YtplekidnlofioaaW.PrintWords Go.Proofs.YtplekidnlofioaaW.PrintLast Go.Proofs.YtplekidnlofioaaW.PrintMore
attribute [local go_sem] max2_int min2_int max_two min_two max_three min_three max_four min_four   -- for this text's walks alone
set_option linter.unusedVariables false
set_option linter.unusedSimpArgs false

/-! ### cmp_isNaN_string: function 183 -/
def cmp_isNaN_string.f (a0 : ByteArray) : Option (Bool) := some (a0.toList != a0.toList)
set_option maxHeartbeats 8000000 in
set_option maxRecDepth 100000 in
theorem cmp_isNaN_string.calls (a0 : ByteArray) (r : Bool) (w : World) (h : cmp_isNaN_string.f a0 = some r) :
 Calls Try.prog 183 #[.string a0] w fun e w' => e = .returned (.bool r) ∧ Drawn0 w w' := by
 have H : (some (a0.toList != a0.toList)) = some r := h
 clear h
 obtain rfl := Option.some.inj H
 go_enter Try.func183, Try.ntmps183
 go_wp2
 go_ret
 exact ⟨es, dr0⟩

end Go.Proofs.Ytplekidnlofioaa.Q
namespace Go.Proofs.Ytplekidnlofioaa.Q
open Go.RowKit Go.Proofs.YtplekidnlofioaaW.PrintWords Go.Proofs.YtplekidnlofioaaW.PrintLast Go.Proofs.YtplekidnlofioaaW.PrintMore
attribute [local go_sem] max2_int min2_int max_two min_two max_three min_three max_four min_four   -- for this text's walks alone
set_option linter.unusedVariables false
set_option linter.unusedSimpArgs false

/-! ### cmp_Compare_string: function 153 -/
def cmpB (a b : ByteArray) : Int := if Op.bytesLess a.toList b.toList = true then -1 else if (a.toList == b.toList) = true then 0 else 1
def cmp_Compare_string.f (a0 : ByteArray) (a1 : ByteArray) : Option (Int) := some (cmpB a0 a1)
set_option maxHeartbeats 8000000 in
theorem cmp_Compare_string.calls (a0 : ByteArray) (a1 : ByteArray) (r : Int) (w : World) (h : cmp_Compare_string.f a0 a1 = some r) :
 Calls Try.prog 153 #[.string a0, .string a1] w fun e w' => e = .returned (.int .i64 r) ∧ Drawn0 w w' := by
 obtain rfl := Option.some.inj h
 have n0 : cmp_isNaN_string.f a0 = some false := by simp [cmp_isNaN_string.f]
 have n1 : cmp_isNaN_string.f a1 = some false := by simp [cmp_isNaN_string.f]
 unfold cmpB
 cases h1 : Op.bytesLess a0.toList a1.toList <;> cases h2 : (a0.toList == a1.toList)
 all_goals
  go_enter Try.func153, Try.ntmps153
  go_wp2_with (go_at_call 183; refine (cmp_isNaN_string.calls _ false _ (by assumption)).mono ?_; rintro e w' ⟨rfl, ⟨nd, rfl⟩⟩)
  go_ret
  exact ⟨rfl, ⟨_, rfl⟩⟩

end Go.Proofs.Ytplekidnlofioaa.Q
namespace Go.Proofs.Ytplekidnlofioaa.Q
open Go.RowKit Go.Proofs.YtplekidnlofioaaW.PrintWords Go.Proofs.YtplekidnlofioaaW.PrintLast Go.Proofs.YtplekidnlofioaaW.PrintMore
attribute [local go_sem] max2_int min2_int max_two min_two max_three min_three max_four min_four   -- for this text's walks alone
set_option linter.unusedVariables false
set_option linter.unusedSimpArgs false

/-! ### impl_Series_compare: function 99 -/
def impl_Series_compare.f (k : Nat) (a0_0 : ByteArray) (a0_1 : ByteArray) (l0_2 : List (S37)) (a1 : ByteArray) (a2 : ByteArray) : Option (Int) := (cmp_Compare_string.f a0_0 a1).bind fun t116 => ((cmp_Compare_string.f a0_1 a2).bind fun t117 => ((cmp_Or_int.f k (([t116, t117] : List Int))).bind fun t121 => (some t121)))
theorem impl_Series_compare.mono : ∀ a0 a1 a2 a3 a4 k, LeO (impl_Series_compare.f k a0 a1 a2 a3 a4) (impl_Series_compare.f (k + 1) a0 a1 a2 a3 a4) := by
 intro a0 a1 a2 a3 a4 k
 unfold impl_Series_compare.f
 repeat' first
  | (with_reducible exact cmp_Or_int.mono _ _)
  | (with_reducible exact LeO.refl _)
  | (with_reducible exact LeO.none _)
  | (with_reducible refine LeO.ite ?_ ?_)
  | (with_reducible refine LeO.bind ?_ (fun _ => ?_))
  | exact cmp_Or_int.mono _ _
  | exact LeO.none _
  | refine LeO.ite ?_ ?_
  | refine LeO.bind ?_ (fun _ => ?_)
def impl_Series_compare.T1 : Bool × List (List Nat × List Nat) := (true, [([], []), ([0], [0]), ([], []), ([1, 2], [1, 2]), ([], []), ([4], [4]), ([], []), ([5, 6, 3], [5, 6]), ([3, 7], [3, 7]), ([8, 7], [8]), ([9, 9, 0, 1, 2, 3, 4, 5, 6, 7, 8, 9], [9])])
def impl_Series_compare.B1 : List Nat := [0, 1, 0, 7, 0, 16, 0, 127, 255, 511, 1023]
theorem impl_Series_compare.tab1 : rtab .any (opsOf Try.f99 1) = impl_Series_compare.T1 := by kernel_rfl
theorem impl_Series_compare.bits1 : waitsOk impl_Series_compare.T1.2 impl_Series_compare.B1 = true := by kernel_rfl
set_option maxHeartbeats 8000000 in
set_option maxRecDepth 100000 in
theorem impl_Series_compare.calls (k : Nat) (a0_0 : ByteArray) (a0_1 : ByteArray) (A0_2 : Option Addr) (c0_2 : Nat) (l0_2 : List (S37)) (a1 : ByteArray) (a2 : ByteArray) (r : Int) (w : World) (hr0_2 : Kd.C k37 w A0_2 l0_2.length l0_2) (hc0_2 : l0_2.length ≤ c0_2) (h : impl_Series_compare.f k a0_0 a0_1 l0_2 a1 a2 = some r) :
 Calls Try.prog 99 #[.agg #[.string a0_0, .string a0_1, .slice A0_2 l0_2.length c0_2], .string a1, .string a2] w fun e w' => e = .returned (.int .i64 r) ∧ Below w.heap.size w w' := by
 have hu81 := Try.underlying81
 have HR0_2 := Aside0.mk hr0_2
 have HC0_2 := Aside0.mk hc0_2
 clear hr0_2 hc0_2
 have HB := Aside0.mk (Below.refl w.heap.size w)
 have H : ((cmp_Compare_string.f a0_0 a1).bind fun t116 => ((cmp_Compare_string.f a0_1 a2).bind fun t117 => ((cmp_Or_int.f k (([t116, t117] : List Int))).bind fun t121 => (some t121)))) = some r := h
 clear h
 obtain ⟨t116, A40, H⟩ := bo H
 have A4 := Aside0.mk A40
 clear A40
 obtain ⟨t117, A50, H⟩ := bo H
 have A5 := Aside0.mk A50
 clear A50
 obtain ⟨y118, hy118⟩ : ∃ y_ : List Int, y_ = (([t116, t117] : List Int)) := ⟨_, rfl⟩
 replace H : ((cmp_Or_int.f k y118).bind fun t121 => (some t121)) = some r := by first | (rw [hy118]; with_reducible exact H) | (have H2_ := (Option.bind_some _ _).symm.trans H; rw [hy118]; with_reducible exact H2_) | (have H2_ := (Option.bind_some _ _).symm.trans H; with_reducible exact H2_) | with_reducible exact H | (rw [hy118]; exact H) | exact H
 have Ny118 := Aside0.mk hy118
 clear hy118
 obtain ⟨t121, A60, H⟩ := bo H
 have A6 := Aside0.mk A60
 clear A60
 obtain rfl := Option.some.inj H
 go_enter Try.func99, Try.ntmps99
 try go_wp2_with (first | ((with_reducible refine gate_dst (N := 3) rfl ?_); refine bx 3 #[.string a0_0, .string a0_1, .slice A0_2 l0_2.length c0_2] 81 ?_; intro gb115 hg w7 hbox hb; have BK115 := ak hbox; have GW115 := gs hg bl; have GE115 := gs hg bl; replace HB := ak (below_step bl hb); clear hb hbox hg))
 replace BK115 := ak (blk_drew BK115.out)
 replace HB := ak (below_drew1 HB.out)
 refine start_ (n := 11) (S := fun w' => w'.cell? ⟨gb115, 0, none⟩ = some (.string a0_0) ∧ w'.cell? ⟨gb115, 1, none⟩ = some (.string a0_1) ∧ w'.cell? ⟨gb115, 2, none⟩ = some (.slice A0_2 l0_2.length c0_2)) (ds := []) (bitsA 11 0) (by kernel_rfl) rfl rfl ⟨bc BK115 0, bc BK115 1, bc BK115 2⟩ (fun hHeld => ?_); refine with_tabW impl_Series_compare.tab1 impl_Series_compare.bits1 (fun HT_ HW_ => ?_)
 generalize w7.drew = w8 at BK115 HB hHeld ⊢
 refine pu 0 (some 7) (bitsA 11 1) ?_
 refine pu 2 (some 9) (bitsA 11 5) ?_
 refine pu 4 (some 11) (bitsA 11 21) ?_
 refine pu 6 (some 13) (bitsA 11 85) ?_
 refine tk 1 (some 8) (bitsA 11 87) hHeld ?_ (hy := Or.inl ⟨by rfl, by rintro w' ⟨s0, s1, s2⟩; go_simp; with_reducible rfl⟩)
 refine tk 5 (some 12) (bitsA 11 119) hHeld ?_ (hy := Or.inl ⟨by rfl, by rintro w' ⟨s0, s1, s2⟩; go_simp; with_reducible rfl⟩)
 refine one_ (i := 3) (N := some 10) (bitsA 11 127) rfl rfl (one_of HT_.out (by kernel_rfl)) (by decide) (fun K hK => ?_)
 refine goes_ Try.func153 (by kernel_rfl) rfl #[.string a0_0, .string a1] (by rfl) rfl rfl mt ?_
 with_reducible refine (cmp_Compare_string.calls a0_0 a1 t116 _ A4.out).mono ?_
 rintro e w' ⟨rfl, ⟨nd, rfl⟩⟩
 refine ⟨_, rfl, ?_⟩
 refine hK.out _ _ ⟨bc BK115 0, bc BK115 1, bc BK115 2⟩ (fun hHeld => ?_)
 clear hK K
 refine nm ?_
 refine one_ (i := 7) (N := some 14) (bitsA 11 255) rfl rfl (one_of HT_.out (by kernel_rfl)) (by decide) (fun K hK => ?_)
 refine goes_ Try.func153 (by kernel_rfl) rfl #[.string a0_1, .string a2] (by rfl) rfl rfl mt ?_
 with_reducible refine (cmp_Compare_string.calls a0_1 a2 t117 _ A5.out).mono ?_
 rintro e w' ⟨rfl, ⟨nd, rfl⟩⟩
 refine ⟨_, rfl, ?_⟩
 refine hK.out _ _ ⟨bc BK115 0, bc BK115 1, bc BK115 2⟩ (fun hHeld => ?_)
 clear hK K
 refine nm ?_
 refine one_ (i := 8) (N := some 15) (bitsA 11 511) rfl rfl (one_of HT_.out (by kernel_rfl)) (by decide) (fun K hK => ?_)
 refine Kd.R_lit_step (Kd.int .i64) _ 3 ?hg (N := 15) ?hd (xs := ([t116, t117] : List Int)) (inner := [.int .i64 t116, .int .i64 t117]) (ok := fun _ => True) (okp := fun _ => True) ?hr ?hp (fun _ hk => hk) trivial (Below.refl _ _) (Nat.le_refl _) (by simp) ?_; (case hd => rfl); (case hg => rfl); (case hr => first | (go_simp; done) | (go_simp; rfl)); (case hp => exact (Reps.one (show Kd.M (Kd.int .i64) _ _ _ t116 [.int .i64 t116] from rfl) (Reps.one (show Kd.M (Kd.int .i64) _ _ _ t117 [.int .i64 t117] from rfl) (Reps.none _ _))))
 intro v119 w9 ho10 hb hg_ hnew_
 clear hg_ hnew_
 (first | rw [← Ny118.out] at ho10 | (simp only [Int.reduceToNat] at ho10; rw [← Ny118.out] at ho10))
 have HO120 := ak (Kd.R_lower ho10 (below_size (bl1 GE115)))
 replace BK115 := bb BK115 hb
 replace HB := ak (below_step (bl1 GE115) hb)
 clear hb ho10
 obtain ⟨Ao11, co11, eo11⟩ := Kd.R_slice HO120.out
 (first | subst eo11 | (injection eo11 with f1_ f2_ f3_; have f4_ := f1_.symm; have f5_ := f3_.symm; clear f1_ f2_ f3_; subst f4_; subst f5_))
 refine hK.out _ _ ⟨bc BK115 0, bc BK115 1, bc BK115 2⟩ (fun hHeld => ?_)
 clear hK K
 refine nm ?_
 refine one_ (i := 9) (N := some 16) (bitsA 11 1023) rfl rfl (one_of HT_.out (by kernel_rfl)) (by decide) (fun K hK => ?_)
 refine goes_ Try.func152 (by kernel_rfl) rfl #[.slice Ao11 y118.length co11] (by rfl) rfl rfl mt ?_
 with_reducible refine (cmp_Or_int.calls k _ _ y118 t121 _ ?side1 ?side2 A6.out).mono ?_
 (case side1 => repeat (first | exact (Kd.R_reads' HO120.out).2.2 | (with_reducible refine Kd.C_alloc ?_ _) | (with_reducible refine Kd.C_drewN ?_ _) | (with_reducible refine Kd.C_drew ?_)))
 (case side2 => exact (Kd.R_reads' HO120.out).2.1)
 rintro e w' ⟨rfl, ⟨nd, rfl⟩⟩
 refine ⟨_, rfl, ?_⟩
 refine hK.out _ _ ⟨bc BK115 0, bc BK115 1, bc BK115 2⟩ (fun hHeld => ?_)
 clear hK K
 refine nm ?_
 refine pu 10 (some 6) (bitsA 11 2047) ?_
 refine done_ (done_of HT_.out (by kernel_rfl)) ?_
 try go_wp2
 go_ret
 exact ⟨ew, bl1 GE115⟩

end Go.Proofs.Ytplekidnlofioaa.Q
namespace Go.Proofs.Ytplekidnlofioaa.Q
open Go.RowKit Go.Proofs.YtplekidnlofioaaW.PrintWords Go.Proofs.YtplekidnlofioaaW.PrintLast
theorem wrapn (n : Nat) (h : n < 4611686018427387904) : wrap64 ((n : Int) + 1) = ((n + 1 : Nat) : Int) := by unfold wrap64; omega
theorem getD_mid {α : Type} (pre suf : List α) (x d : α) : (pre ++ x :: suf).getD pre.length d = x := by simp [List.getD]
theorem lt_mid {α : Type} (pre suf : List α) (x : α) : (pre.length : Int) < ((pre ++ x :: suf).length : Int) := by simp; omega
theorem not_lt_end {α : Type} (pre : List α) : ¬ ((pre.length : Int) < ((pre ++ []).length : Int)) := by simp
theorem nn (n : Nat) : (0 : Int) ≤ (n : Int) := Int.natCast_nonneg n
theorem data_size (s : ByteArray) : s.size = s.data.toList.length := by rw [Array.length_toList]; rfl
theorem bt_mid {s : ByteArray} {pre suf : List UInt8} {b : UInt8} (h : s.data.toList = pre ++ b :: suf) : bt s (pre.length : Int) = (b.toNat : Int) := by
  have hl : pre.length < s.size := by rw [data_size, h]; simp
  have e : s[pre.length] = b := by
    have h1 : s.data.toList[pre.length]? = some b := by rw [h]; simp
    have h2 : s.data.toList[pre.length]? = some (s.data[pre.length]) := by rw [Array.getElem?_toList]; exact Array.getElem?_eq_getElem hl
    have h3 := h2.symm.trans h1
    exact Option.some.inj h3
  simp [bt, hl, e]
theorem toList_data (s : ByteArray) : s.toList = s.data.toList := Lib.toList_data s
def inB (x lo hi : Int) : Bool := decide (lo ≤ x) && decide (x ≤ hi)
theorem l01In_v (x lo hi : Int) : spec_l01In.f x lo hi = some (inB x lo hi) := by
  unfold spec_l01In.f inB
  by_cases h : lo ≤ x <;> simp [h]
theorem in_v (x lo hi : Int) : impl_in.f x lo hi = some (inB x lo hi) := by
  unfold impl_in.f inB
  by_cases h : lo ≤ x <;> simp [h]
def isNm (b : UInt8) : Bool := (decide (97 ≤ (b.toNat : Int)) && decide ((b.toNat : Int) ≤ 122)) || (decide (48 ≤ (b.toNat : Int)) && decide ((b.toNat : Int) ≤ 57))
def nameOk (s : ByteArray) : Bool := inB (s.size : Int) 1 12 && s.data.toList.all isNm
theorem spec_NameOk_l0_ev (s : ByteArray) (hs : s.size < 4611686018427387904) : ∀ suf pre, s.data.toList = pre ++ suf → Ev (fun k => spec_NameOk.l0 k s (pre.length : Int)) (suf.all isNm) := by
  intro suf
  induction suf with
  | nil =>
    intro pre h
    refine Ev.step (fun k => by rw [spec_NameOk.l0]) ?_
    have hlt : ¬ ((pre.length : Int) < (s.size : Int)) := by rw [data_size, h]; simp
    simp only [if_neg hlt]
    exact Ev.now _
  | cons b suf ih =>
    intro pre h
    refine Ev.step (fun k => by rw [spec_NameOk.l0]) ?_
    have hlt : ((pre.length : Int) < (s.size : Int)) := by rw [data_size, h]; exact lt_mid _ _ _
    have hl : pre.length < s.size := by omega
    have hw := wrapn pre.length (by omega)
    have hr := ih (pre ++ [b]) (by rw [h]; simp)
    rw [List.length_append, List.length_singleton] at hr
    simp only [if_pos hlt, if_pos (nn _), bt_mid h, hw]
    by_cases c1 : (b.toNat : Int) < 97 <;> by_cases c2 : (b.toNat : Int) > 122 <;> by_cases c3 : (b.toNat : Int) < 48 <;> by_cases c4 : (b.toNat : Int) > 57 <;> simp only [c1, c2, c3, c4, if_true, if_false, List.all_cons]
    all_goals first
      | (have e : isNm b = true := by (simp only [isNm, Bool.or_eq_true, Bool.and_eq_true, decide_eq_true_eq]; omega)
         rw [e, Bool.true_and]; exact hr)
      | (have e : isNm b = false := by (simp only [isNm, Bool.or_eq_false_iff, Bool.and_eq_false_iff, decide_eq_false_iff_not]; omega)
         rw [e, Bool.false_and]; exact Ev.now _)
theorem spec_NameOk_ev (s : ByteArray) : Ev (fun k => spec_NameOk.f k s) (nameOk s) := by
  unfold spec_NameOk.f nameOk
  simp only [l01In_v, Option.bind_some]
  cases h : inB (s.size : Int) 1 12 with
  | false => simp only [if_neg (show ¬ (false = true) by decide), Bool.false_and]; exact Ev.now _
  | true =>
    simp only [if_pos, Bool.true_and]
    have hs : s.size < 4611686018427387904 := by simp only [inB, Bool.and_eq_true, decide_eq_true_eq] at h; omega
    exact spec_NameOk_l0_ev s hs _ [] rfl
theorem impl_NameOk_l0_ev (s : ByteArray) (hs : s.size < 4611686018427387904) : ∀ suf pre, s.data.toList = pre ++ suf → Ev (fun k => impl_NameOk.l0 k s (s.size : Int) (pre.length : Int)) (suf.all isNm && inB (s.size : Int) 1 12) := by
  intro suf
  induction suf with
  | nil =>
    intro pre h
    refine Ev.step (fun k => by rw [impl_NameOk.l0]) ?_
    have hlt : ¬ ((pre.length : Int) < (s.size : Int)) := by rw [data_size, h]; simp
    simp only [if_neg hlt, in_v, Option.bind_some, List.all_nil, Bool.true_and]
    exact Ev.now _
  | cons b suf ih =>
    intro pre h
    refine Ev.step (fun k => by rw [impl_NameOk.l0]) ?_
    have hlt : ((pre.length : Int) < (s.size : Int)) := by rw [data_size, h]; exact lt_mid _ _ _
    have hl : pre.length < s.size := by omega
    have hw := wrapn pre.length (by omega)
    have hr := ih (pre ++ [b]) (by rw [h]; simp)
    rw [List.length_append, List.length_singleton] at hr
    simp only [if_pos hlt, if_pos (nn _), bt_mid h, hw]
    by_cases c1 : (b.toNat : Int) < 97 <;> by_cases c2 : (b.toNat : Int) > 122 <;> by_cases c3 : (b.toNat : Int) < 48 <;> by_cases c4 : (b.toNat : Int) > 57 <;> simp only [c1, c2, c3, c4, if_true, if_false, List.all_cons]
    all_goals first
      | (have e : isNm b = true := by (simp only [isNm, Bool.or_eq_true, Bool.and_eq_true, decide_eq_true_eq]; omega)
         rw [e, Bool.true_and]; exact hr)
      | (have e : isNm b = false := by (simp only [isNm, Bool.or_eq_false_iff, Bool.and_eq_false_iff, decide_eq_false_iff_not]; omega)
         rw [e, Bool.false_and, Bool.false_and]; exact Ev.now _)
theorem impl_NameOk_ev (s : ByteArray) (hs : s.size < 4611686018427387904) : Ev (fun k => impl_NameOk.f k s) (nameOk s) := by
  unfold impl_NameOk.f nameOk
  rw [Bool.and_comm]
  exact impl_NameOk_l0_ev s hs _ [] rfl
def lessB (a b : ByteArray) : Bool := Op.bytesLess a.toList b.toList
theorem spec_l02Less_l0_ev (s t : ByteArray) (hs : s.size < 4611686018427387904) : ∀ sa sb pa pb, pa.length = pb.length → s.data.toList = pa ++ sa → t.data.toList = pb ++ sb → Ev (fun k => spec_l02Less.l0 k s t (pa.length : Int)) (if sa.length = 0 ∨ sb.length = 0 then decide (s.size < t.size) else Op.bytesLess sa sb) := by
  intro sa
  induction sa with
  | nil =>
    intro sb pa pb hp h h'
    refine Ev.step (fun k => by rw [spec_l02Less.l0]) ?_
    have hlt : ¬ ((pa.length : Int) < (s.size : Int)) := by rw [data_size, h]; simp
    simp only [if_neg hlt]
    refine Ev.step (fun k => by rw [spec_l02Less.j1]) ?_
    simp only [if_neg (show ¬ (false = true) by decide), List.length_nil, true_or, if_true]
    rw [show decide ((s.size : Int) < (t.size : Int)) = decide (s.size < t.size) from by simp]
    exact Ev.now _
  | cons a sa ih =>
    intro sb pa pb hp h h'
    refine Ev.step (fun k => by rw [spec_l02Less.l0]) ?_
    have hlt : ((pa.length : Int) < (s.size : Int)) := by rw [data_size, h]; exact lt_mid _ _ _
    simp only [if_pos hlt]
    refine Ev.step (fun k => by rw [spec_l02Less.j1]) ?_
    cases sb with
    | nil =>
      have hlt2 : ¬ ((pa.length : Int) < (t.size : Int)) := by rw [data_size, h', hp]; simp
      simp only [hlt2, decide_false, if_neg (show ¬ (false = true) by decide), List.length_nil, or_true, if_true]
      rw [show decide ((s.size : Int) < (t.size : Int)) = decide (s.size < t.size) from by simp]
      exact Ev.now _
    | cons b sb =>
      have hlt2 : ((pa.length : Int) < (t.size : Int)) := by rw [data_size, h', hp]; exact lt_mid _ _ _
      have hl : pa.length < s.size := by omega
      have hw := wrapn pa.length (by omega)
      have hb2 : bt t (pa.length : Int) = (b.toNat : Int) := by rw [hp]; exact bt_mid h'
      simp only [hlt2, decide_true, if_true, if_pos (nn _), hlt, bt_mid h, hb2, hw]
      have hr := ih sb (pa ++ [a]) (pb ++ [b]) (by simp [hp]) (by rw [h]; simp) (by rw [h']; simp)
      rw [List.length_append, List.length_singleton] at hr
      by_cases c : (a.toNat : Int) = (b.toNat : Int)
      · obtain rfl : a = b := UInt8.toNat_inj.1 (by omega)
        simp only [if_true, List.length_cons]
        have e : Op.bytesLess (a :: sa) (a :: sb) = Op.bytesLess sa sb := by simp [Op.bytesLess, UInt8.lt_irrefl]
        rw [if_neg (by omega), e]
        by_cases d : sa.length = 0 ∨ sb.length = 0
        · rw [if_pos d] at hr
          have : Op.bytesLess sa sb = decide (s.size < t.size) := by
            have h1 : s.size = pa.length + 1 + sa.length := by rw [data_size, h]; simp; omega
            have h2 : t.size = pa.length + 1 + sb.length := by rw [data_size, h', hp]; simp; omega
            rw [h1, h2]
            cases sa with
            | nil => cases sb <;> simp [Op.bytesLess]
            | cons x xs =>
              cases sb with
              | nil => simp [Op.bytesLess]
              | cons y ys => simp at d
          rw [this]
          exact hr
        · rw [if_neg d] at hr
          exact hr
      · simp only [c, if_false, List.length_cons]
        rw [if_neg (by omega)]
        have e : Op.bytesLess (a :: sa) (b :: sb) = decide ((a.toNat : Int) < (b.toNat : Int)) := by
          have hne : ¬ (a = b) := fun h => c (by rw [h])
          simp [Op.bytesLess, hne, UInt8.lt_iff_toNat_lt]
        rw [e]
        exact Ev.now _
theorem spec_l02Less_ev (s t : ByteArray) (hs : s.size < 4611686018427387904) : Ev (fun k => spec_l02Less.f k s t) (lessB s t) := by
  unfold spec_l02Less.f lessB
  rw [toList_data, toList_data]
  have h := spec_l02Less_l0_ev s t hs s.data.toList t.data.toList [] [] rfl rfl rfl
  by_cases d : s.data.toList.length = 0 ∨ t.data.toList.length = 0
  · rw [if_pos d] at h
    have : Op.bytesLess s.data.toList t.data.toList = decide (s.size < t.size) := by
      rw [data_size, data_size]
      cases hs : s.data.toList with
      | nil => cases ht : t.data.toList <;> simp [Op.bytesLess]
      | cons x xs =>
        cases ht : t.data.toList with
        | nil => simp [Op.bytesLess]
        | cons y ys => simp [hs, ht] at d
    rw [this]
    exact h
  · rw [if_neg d] at h
    exact h
def befB (a b c d : ByteArray) : Bool := if a.toList = c.toList then lessB b d else lessB a c
theorem spec_l03Before_ev (a b c d : ByteArray) (ha : a.size < 4611686018427387904) (hb : b.size < 4611686018427387904) : Ev (fun k => spec_l03Before.f k a b c d) (befB a b c d) := by
  unfold spec_l03Before.f befB
  by_cases h : a.toList = c.toList
  · simp only [h, if_true]
    exact Ev.bind (spec_l02Less_ev b d hb) (Ev.now _)
  · simp only [h, if_false]
    exact Ev.bind (spec_l02Less_ev a c ha) (Ev.now _)
theorem less_irrefl : ∀ l : List UInt8, Op.bytesLess l l = false
  | [] => rfl
  | a :: l => by simp [Op.bytesLess, less_irrefl l, UInt8.lt_irrefl]
theorem cmp_Or_int_ev (x y : Int) : Ev (fun k => cmp_Or_int.f k [x, y]) (if x = 0 then y else x) := by
  unfold cmp_Or_int.f
  have w1 : wrap64 (0 + 1) = 1 := by unfold wrap64; omega
  have w2 : wrap64 (1 + 1) = 2 := by unfold wrap64; omega
  refine Ev.step (fun k => by rw [cmp_Or_int.l0]) ?_
  have r0 : rd [x, y] 0 = x := rfl
  have r1 : rd [x, y] 1 = y := rfl
  have l2 : (([x, y] : List Int).length : Int) = 2 := rfl
  simp only [l2, r0, w1, show (0 : Int) < 2 from by decide, show (0 : Int) ≤ 0 from by decide, if_true]
  by_cases hx : x = 0
  · simp only [hx, if_true]
    refine Ev.step (fun k => by rw [cmp_Or_int.l0]) ?_
    have r1' : rd [0, y] 1 = y := rfl
    have l2' : (([0, y] : List Int).length : Int) = 2 := rfl
    simp only [l2', r1', w2, show (1 : Int) < 2 from by decide, show (0 : Int) ≤ 1 from by decide, if_true]
    by_cases hy : y = 0
    · simp only [hy, if_true]
      refine Ev.step (fun k => by rw [cmp_Or_int.l0]) ?_
      simp only [show ¬ ((2 : Int) < 2) from by decide, if_false]
      exact Ev.now _
    · simp only [hy, if_false]
      exact Ev.now _
  · simp only [hx, if_false]
    exact Ev.now _
def cmpS (a b c d : ByteArray) : Int := if cmpB a c = 0 then cmpB b d else cmpB a c
theorem impl_compare_ev (a b : ByteArray) (ps : List S37) (c d : ByteArray) : Ev (fun k => impl_Series_compare.f k a b ps c d) (cmpS a b c d) := by
  unfold impl_Series_compare.f cmpS
  simp only [cmp_Compare_string.f, Option.bind_some]
  exact Ev.bind (cmp_Or_int_ev _ _) (Ev.now _)
theorem cmpB_zero (a b : ByteArray) : cmpB a b = 0 ↔ a.toList = b.toList := by
  unfold cmpB
  by_cases h : Op.bytesLess a.toList b.toList = true
  · rw [if_pos h]
    refine ⟨(fun h => by cases h), fun e => ?_⟩
    rw [e, less_irrefl] at h
    cases h
  · rw [if_neg h]
    by_cases e : a.toList = b.toList <;> simp [e]
theorem cmpB_neg (a b : ByteArray) : cmpB a b < 0 ↔ lessB a b = true := by
  unfold cmpB lessB
  by_cases h : Op.bytesLess a.toList b.toList = true
  · simp [h]
  · rw [if_neg h]
    by_cases e : (a.toList == b.toList) = true <;> simp [e, h]
theorem cmpS_neg (a b c d : ByteArray) : decide (cmpS a b c d ≥ 0) = !befB a b c d := by
  unfold cmpS befB
  by_cases h : a.toList = c.toList
  · rw [if_pos ((cmpB_zero a c).2 h), if_pos h]
    have := cmpB_neg b d
    cases hl : lessB b d with
    | true => rw [hl] at this; simp; exact this.2 rfl
    | false => rw [hl] at this; simp; have h2 : ¬ (cmpB b d < 0) := fun h => by cases this.1 h
               omega
  · rw [if_neg (fun h2 => h ((cmpB_zero a c).1 h2)), if_neg h]
    have := cmpB_neg a c
    cases hl : lessB a c with
    | true => rw [hl] at this; simp; exact this.2 rfl
    | false => rw [hl] at this; simp; have h2 : ¬ (cmpB a c < 0) := fun h => by cases this.1 h
               omega
end Go.Proofs.Ytplekidnlofioaa.Q
namespace Go.Proofs.Ytplekidnlofioaa.Q
open Go.RowKit Go.Proofs.YtplekidnlofioaaW.PrintWords Go.Proofs.YtplekidnlofioaaW.PrintLast Go.Proofs.YtplekidnlofioaaW.PrintMore
attribute [local go_sem] max2_int min2_int max_two min_two max_three min_three max_four min_four   -- for this text's walks alone
set_option linter.unusedVariables false
set_option linter.unusedSimpArgs false

/-! ### spec_l02Tick: function 71 -/
def spec_l02Tick.f (a0 : Int) : Option (Bool) := (spec_l01In.f a0 0 1000000000).bind fun t182 => (some t182)
set_option maxHeartbeats 8000000 in
set_option maxRecDepth 100000 in
theorem spec_l02Tick.calls (a0 : Int) (r : Bool) (w : World) (h : spec_l02Tick.f a0 = some r) :
 Calls Try.prog 71 #[.int .i64 a0] w fun e w' => e = .returned (.bool r) ∧ Drawn0 w w' := by
 have H : ((spec_l01In.f a0 0 1000000000).bind fun t182 => (some t182)) = some r := h
 clear h
 obtain ⟨t182, A20, H⟩ := bo H
 have A2 := Aside0.mk A20
 clear A20
 obtain rfl := Option.some.inj H
 go_enter Try.func71, Try.ntmps71
 go_wp2_with (first | ((with_reducible refine gate_callee (f := 69) rfl ?_); refine gl (some 4) Try.func69 #[.int .i64 a0, .int .i64 0, .int .i64 1000000000] ?_; (with_reducible refine (spec_l01In.calls a0 0 1000000000 t182 _ A2.out).mono ?_); rintro e w' ⟨rfl, ⟨nd, rfl⟩⟩; refine ⟨_, rfl, ?_⟩))
 go_ret
 exact ⟨es, dr0⟩

end Go.Proofs.Ytplekidnlofioaa.Q
namespace Go.Proofs.Ytplekidnlofioaa.Q
open Go.RowKit Go.Proofs.YtplekidnlofioaaW.PrintWords Go.Proofs.YtplekidnlofioaaW.PrintLast Go.Proofs.YtplekidnlofioaaW.PrintMore
attribute [local go_sem] max2_int min2_int max_two min_two max_three min_three max_four min_four   -- for this text's walks alone
set_option linter.unusedVariables false
set_option linter.unusedSimpArgs false

/-! ### spec_l01Amt: function 72 -/
def spec_l01Amt.f (a0 : Int) : Option (Bool) := (spec_l01In.f a0 0 1000000000).bind fun t183 => (some t183)
set_option maxHeartbeats 8000000 in
set_option maxRecDepth 100000 in
theorem spec_l01Amt.calls (a0 : Int) (r : Bool) (w : World) (h : spec_l01Amt.f a0 = some r) :
 Calls Try.prog 72 #[.int .i64 a0] w fun e w' => e = .returned (.bool r) ∧ Drawn0 w w' := by
 have H : ((spec_l01In.f a0 0 1000000000).bind fun t183 => (some t183)) = some r := h
 clear h
 obtain ⟨t183, A20, H⟩ := bo H
 have A2 := Aside0.mk A20
 clear A20
 obtain rfl := Option.some.inj H
 go_enter Try.func72, Try.ntmps72
 go_wp2_with (first | ((with_reducible refine gate_callee (f := 69) rfl ?_); refine gl (some 4) Try.func69 #[.int .i64 a0, .int .i64 0, .int .i64 1000000000] ?_; (with_reducible refine (spec_l01In.calls a0 0 1000000000 t183 _ A2.out).mono ?_); rintro e w' ⟨rfl, ⟨nd, rfl⟩⟩; refine ⟨_, rfl, ?_⟩))
 go_ret
 exact ⟨es, dr0⟩

end Go.Proofs.Ytplekidnlofioaa.Q
namespace Go.Proofs.Ytplekidnlofioaa.Q
open Go.RowKit Go.Proofs.YtplekidnlofioaaW.PrintWords Go.Proofs.YtplekidnlofioaaW.PrintLast Go.Proofs.YtplekidnlofioaaW.PrintMore
attribute [local go_sem] max2_int min2_int max_two min_two max_three min_three max_four min_four   -- for this text's walks alone
set_option linter.unusedVariables false
set_option linter.unusedSimpArgs false

/-! ### spec_StoreOk: function 16 -/
mutual
def spec_StoreOk.l0 : Nat → List (S81) → Int → Option (Bool)
 | 0, _, _ => none
 | k + 1, x0, x3 => if x3 < (x0.length : Int) then (if 0 ≤ x3 then ((spec_NameOk.f k ((rd_T81 x0 x3).f0)).bind fun t186 => (if t186 = true then ((spec_NameOk.f k ((rd_T81 x0 x3).f1)).bind fun t187 => (if t187 = true then ((spec_l01In.f (((rd_T81 x0 x3).f2).length : Int) 1 12).bind fun t188 => (if t188 = true then (if x3 > 0 then (if 0 ≤ (wrap64 (x3 - 1)) then (if (wrap64 (x3 - 1)) < (x0.length : Int) then ((spec_l03Before.f k ((rd_T81 x0 (wrap64 (x3 - 1))).f0) ((rd_T81 x0 (wrap64 (x3 - 1))).f1) ((rd_T81 x0 x3).f0) ((rd_T81 x0 x3).f1)).bind fun t191 => (spec_StoreOk.j1 k x0 x3 (!t191) ((rd_T81 x0 x3).f0) ((rd_T81 x0 x3).f1) ((rd_T81 x0 x3).f2))) else (none)) else (none)) else (spec_StoreOk.j1 k x0 x3 false ((rd_T81 x0 x3).f0) ((rd_T81 x0 x3).f1) ((rd_T81 x0 x3).f2))) else (spec_StoreOk.j1 k x0 x3 true ((rd_T81 x0 x3).f0) ((rd_T81 x0 x3).f1) ((rd_T81 x0 x3).f2)))) else (spec_StoreOk.j1 k x0 x3 true ((rd_T81 x0 x3).f0) ((rd_T81 x0 x3).f1) ((rd_T81 x0 x3).f2)))) else (spec_StoreOk.j1 k x0 x3 true ((rd_T81 x0 x3).f0) ((rd_T81 x0 x3).f1) ((rd_T81 x0 x3).f2)))) else (none)) else (some true)
def spec_StoreOk.j1 : Nat → List (S81) → Int → Bool → ByteArray → ByteArray → List (S37) → Option (Bool)
 | 0, _, _, _, _, _, _ => none
 | k + 1, x0, x3, x59, x186000, x186001, x186002 => if x59 = true then (some false) else (spec_StoreOk.l1 k x0 x3 0 x186000 x186001 x186002)
def spec_StoreOk.l1 : Nat → List (S81) → Int → Int → ByteArray → ByteArray → List (S37) → Option (Bool)
 | 0, _, _, _, _, _, _ => none
 | k + 1, x0, x3, x5, x186000, x186001, x186002 => if x5 < (x186002.length : Int) then (if 0 ≤ x5 then ((spec_l02Tick.f ((rd_T37 x186002 x5).f0)).bind fun t193 => (if t193 = true then ((spec_l01Amt.f ((rd_T37 x186002 x5).f1)).bind fun t195 => (if t195 = true then (if x5 > 0 then (if 0 ≤ (wrap64 (x5 - 1)) then (if (wrap64 (x5 - 1)) < (x186002.length : Int) then (if ((rd_T37 x186002 (wrap64 (x5 - 1))).f0) ≥ ((rd_T37 x186002 x5).f0) then (some false) else (spec_StoreOk.l1 k x0 x3 (wrap64 (x5 + 1)) x186000 x186001 x186002)) else (none)) else (none)) else (spec_StoreOk.l1 k x0 x3 (wrap64 (x5 + 1)) x186000 x186001 x186002)) else (some false))) else (some false))) else (none)) else (spec_StoreOk.l0 k x0 (wrap64 (x3 + 1)))
end
def spec_StoreOk.f (k : Nat) (l0 : List (S81)) : Option (Bool) := if (l0.length : Int) > 24 then (some false) else (spec_StoreOk.l0 k l0 0)
theorem spec_StoreOk.mono_l : ∀ k, (∀ y0 y1, LeO (spec_StoreOk.l0 k y0 y1) (spec_StoreOk.l0 (k + 1) y0 y1)) ∧ (∀ y0 y1 y2 y3 y4 y5, LeO (spec_StoreOk.j1 k y0 y1 y2 y3 y4 y5) (spec_StoreOk.j1 (k + 1) y0 y1 y2 y3 y4 y5)) ∧ (∀ y0 y1 y2 y3 y4 y5, LeO (spec_StoreOk.l1 k y0 y1 y2 y3 y4 y5) (spec_StoreOk.l1 (k + 1) y0 y1 y2 y3 y4 y5))
 | 0 => ⟨fun _ _ r h => by simp [spec_StoreOk.l0] at h, fun _ _ _ _ _ _ r h => by simp [spec_StoreOk.j1] at h, fun _ _ _ _ _ _ r h => by simp [spec_StoreOk.l1] at h⟩
 | k + 1 => by
  obtain ⟨ih0, ih1, ih2⟩ := spec_StoreOk.mono_l k
  refine ⟨?_, ?_, ?_⟩
  · intro y0 y1
    unfold spec_StoreOk.l0
    repeat' first
    | (with_reducible exact ih0 _ _)
    | (with_reducible exact ih1 _ _ _ _ _ _)
    | (with_reducible exact ih2 _ _ _ _ _ _)
    | (with_reducible exact spec_NameOk.mono _ _)
    | (with_reducible exact spec_l03Before.mono _ _ _ _ _)
    | (with_reducible exact LeO.refl _)
    | (with_reducible exact LeO.none _)
    | (with_reducible refine LeO.ite ?_ ?_)
    | (with_reducible refine LeO.bind ?_ (fun _ => ?_))
    | exact ih0 _ _
    | exact ih1 _ _ _ _ _ _
    | exact ih2 _ _ _ _ _ _
    | exact spec_NameOk.mono _ _
    | exact spec_l03Before.mono _ _ _ _ _
    | exact LeO.none _
    | refine LeO.ite ?_ ?_
    | refine LeO.bind ?_ (fun _ => ?_)
  · intro y0 y1 y2 y3 y4 y5
    unfold spec_StoreOk.j1
    repeat' first
    | (with_reducible exact ih0 _ _)
    | (with_reducible exact ih1 _ _ _ _ _ _)
    | (with_reducible exact ih2 _ _ _ _ _ _)
    | (with_reducible exact spec_NameOk.mono _ _)
    | (with_reducible exact spec_l03Before.mono _ _ _ _ _)
    | (with_reducible exact LeO.refl _)
    | (with_reducible exact LeO.none _)
    | (with_reducible refine LeO.ite ?_ ?_)
    | (with_reducible refine LeO.bind ?_ (fun _ => ?_))
    | exact ih0 _ _
    | exact ih1 _ _ _ _ _ _
    | exact ih2 _ _ _ _ _ _
    | exact spec_NameOk.mono _ _
    | exact spec_l03Before.mono _ _ _ _ _
    | exact LeO.none _
    | refine LeO.ite ?_ ?_
    | refine LeO.bind ?_ (fun _ => ?_)
  · intro y0 y1 y2 y3 y4 y5
    unfold spec_StoreOk.l1
    repeat' first
    | (with_reducible exact ih0 _ _)
    | (with_reducible exact ih1 _ _ _ _ _ _)
    | (with_reducible exact ih2 _ _ _ _ _ _)
    | (with_reducible exact spec_NameOk.mono _ _)
    | (with_reducible exact spec_l03Before.mono _ _ _ _ _)
    | (with_reducible exact LeO.refl _)
    | (with_reducible exact LeO.none _)
    | (with_reducible refine LeO.ite ?_ ?_)
    | (with_reducible refine LeO.bind ?_ (fun _ => ?_))
    | exact ih0 _ _
    | exact ih1 _ _ _ _ _ _
    | exact ih2 _ _ _ _ _ _
    | exact spec_NameOk.mono _ _
    | exact spec_l03Before.mono _ _ _ _ _
    | exact LeO.none _
    | refine LeO.ite ?_ ?_
    | refine LeO.bind ?_ (fun _ => ?_)
theorem spec_StoreOk.mono : ∀ a0 k, LeO (spec_StoreOk.f k a0) (spec_StoreOk.f (k + 1) a0) := by
 intro a0 k
 obtain ⟨ih0, ih1, ih2⟩ := spec_StoreOk.mono_l k
 unfold spec_StoreOk.f
 repeat' first
  | (with_reducible exact ih0 _ _)
  | (with_reducible exact ih1 _ _ _ _ _ _)
  | (with_reducible exact ih2 _ _ _ _ _ _)
  | (with_reducible exact spec_NameOk.mono _ _)
  | (with_reducible exact spec_l03Before.mono _ _ _ _ _)
  | (with_reducible exact LeO.refl _)
  | (with_reducible exact LeO.none _)
  | (with_reducible refine LeO.ite ?_ ?_)
  | (with_reducible refine LeO.bind ?_ (fun _ => ?_))
  | exact ih0 _ _
  | exact ih1 _ _ _ _ _ _
  | exact ih2 _ _ _ _ _ _
  | exact spec_NameOk.mono _ _
  | exact spec_l03Before.mono _ _ _ _ _
  | exact LeO.none _
  | refine LeO.ite ?_ ?_
  | refine LeO.bind ?_ (fun _ => ?_)
def spec_StoreOk.T7 : Bool × List (List Nat × List Nat) := (true, [([], []), ([0], [0]), ([1], [1]), ([2], [2]), ([3, 2], [3]), ([4], [4]), ([5, 4], [4, 5]), ([6, 4, 4], [4, 6]), ([7, 4], [4, 7]), ([4, 8], [4, 8]), ([9, 7], [9]), ([10], [10]), ([11, 10], [10, 11]), ([12, 10], [10, 12]), ([13, 10, 10], [10, 13]), ([14, 10], [10, 14]), ([10, 15], [10, 15]), ([16, 14], [16]), ([17], [17]), ([18, 17], [17, 18]), ([19, 17, 17], [17, 19]), ([20], [20]), ([20], [20]), ([22, 20], [20, 22]), ([21, 23, 20], [20, 21, 23]), ([24, 20], [20, 24]), ([25, 20], [20, 25]), ([20], [20]), ([20], [20]), ([28, 20], [20, 28]), ([27, 29, 20], [20, 27, 29]), ([30, 20], [20, 30]), ([31, 20], [20, 31]), ([20], [20]), ([33, 20], [20, 33]), ([20], [20]), ([35, 20], [20, 35]), ([26, 32, 34, 36, 20, 20], [20, 26, 32, 34, 36]), ([37, 20], [20, 37]), ([20, 38, 17], [17, 20, 38]), ([17, 39], [17, 39])])
def spec_StoreOk.B7 : List Nat := [0, 1, 3, 7, 15, 31, 63, 127, 255, 511, 1023, 2047, 4095, 8191, 16383, 32767, 65535, 131071, 262143, 524287, 1048575, 2097151, 2097151, 6291455, 16777215, 33554431, 67108863, 2097151, 2097151, 270532607, 941621247, 2015363071, 4162846719, 2097151, 8592031743, 2097151, 34361835519, 137438953471, 274877906943, 549755813887, 1099511627775]
theorem spec_StoreOk.tab7 : rtab .any (opsOf Try.f16 7) = spec_StoreOk.T7 := by kernel_rfl
theorem spec_StoreOk.bits7 : waitsOk spec_StoreOk.T7.2 spec_StoreOk.B7 = true := by kernel_rfl
def spec_StoreOk.T12 : Bool × List (List Nat × List Nat) := (true, [([], []), ([0], [0]), ([], []), ([1, 2], [1, 2]), ([3], [3]), ([4], [4]), ([5], [5]), ([6], [6]), ([7, 6], [7]), ([8], [8]), ([9, 8], [8, 9]), ([8], [8]), ([10, 11, 8], [8, 10, 11]), ([12, 8], [8, 12]), ([13, 8], [8, 13]), ([14, 8, 8], [8, 14]), ([15, 8], [8, 15]), ([8, 16], [8, 16]), ([17, 15], [17]), ([18], [18]), ([19, 18], [18, 19]), ([20, 18, 18], [18, 20]), ([21], [21]), ([22, 21], [21, 22]), ([21], [21]), ([24, 21], [21, 24]), ([23, 25, 21], [21, 23, 25]), ([26, 21], [21, 26]), ([27, 21], [21, 27]), ([21], [21]), ([29, 21], [21, 29]), ([21], [21]), ([30, 31, 21], [21, 30, 31]), ([32, 21], [21, 32]), ([33, 21], [21, 33]), ([28, 34, 21], [21, 28, 34]), ([21, 35, 18], [18, 21, 35]), ([18, 36], [18, 36])])
def spec_StoreOk.B12 : List Nat := [0, 1, 0, 7, 15, 31, 63, 127, 255, 511, 1023, 511, 4095, 8191, 16383, 32767, 65535, 131071, 262143, 524287, 1048575, 2097151, 4194303, 8388607, 4194303, 20971519, 67108863, 134217727, 268435455, 4194303, 541065215, 4194303, 3762290687, 8057257983, 16647192575, 34359738367, 68719476735, 137438953471]
theorem spec_StoreOk.tab12 : rtab .any (opsOf Try.f16 12) = spec_StoreOk.T12 := by kernel_rfl
theorem spec_StoreOk.bits12 : waitsOk spec_StoreOk.T12.2 spec_StoreOk.B12 = true := by kernel_rfl
set_option maxHeartbeats 8000000 in
set_option maxRecDepth 100000 in
theorem spec_StoreOk.calls (k : Nat) (A0 : Option Addr) (c0 : Nat) (l0 : List (S81)) (r : Bool) (w : World) (hr0 : Kd.C k81 w A0 l0.length l0) (hc0 : l0.length ≤ c0) (h : spec_StoreOk.f k l0 = some r) :
 Calls Try.prog 16 #[.slice A0 l0.length c0] w fun e w' => e = .returned (.bool r) ∧ Below w.heap.size w w' := by
 have hu81 := Try.underlying81
 have HR0 := Aside0.mk hr0
 have HC0 := Aside0.mk hc0
 clear hr0 hc0
 have HB := Aside0.mk (Below.refl w.heap.size w)
 have H : (if (l0.length : Int) > 24 then (some false) else (spec_StoreOk.l0 k l0 0)) = some r := h
 clear h
 by_cases c2 : (l0.length : Int) > 24
 · rw [if_pos c2] at H
   have c2b0 : decide (24 < (l0.length : Int)) = true := decide_eq_true c2
   have c2b1 : decide (24 < l0.length) = true := decide_eq_true (by omega)
   clear c2
   obtain rfl := Option.some.inj H
   go_enter Try.func16, Try.ntmps16
   go_wp2
   go_ret
   exact ⟨ew, bl⟩
 · rw [if_neg c2] at H
   have c2b0 : decide (24 < (l0.length : Int)) = false := decide_eq_false c2
   have c2b1 : decide (24 < l0.length) = false := decide_eq_false (by omega)
   clear c2
   have H' := Aside0.mk H
   clear H
   go_enter Try.func16, Try.ntmps16
   go_wp2
   go_loopg [3] k (fun kq v3 w' => ∃ (x3_1 : Int), v3 = .int .i64 x3_1 ∧ Aside0 (spec_StoreOk.l0 kq l0 x3_1 = some r) ∧ Aside0 (kq ≤ k) ∧ Aside0 (Below w.heap.size w w'))
   case atStart => exact ⟨(0), es, H', ⟨Nat.le_refl _⟩, ⟨bl⟩⟩
   case round =>
    clear H'
    try clear c1
    try clear c2
    try clear c2b0
    try clear c2b1
    try clear p2
    obtain ⟨x3_1, rfl, HA, HK1, HB⟩ := hrel
    cases gk with
    | zero => exact absurd HA.out (by simp [spec_StoreOk.l0])
    | succ k1 =>
     have H := HA.out
     clear HA
     simp only [spec_StoreOk.l0] at H
     by_cases c3 : x3_1 < (l0.length : Int)
     · rw [if_pos c3] at H
       have c3b0 : decide (x3_1 < (l0.length : Int)) = true := decide_eq_true c3
       clear c3
       by_cases c4 : 0 ≤ x3_1
       · rw [if_pos c4] at H
         have c4b0 : decide (0 ≤ x3_1) = true := decide_eq_true c4
         clear c4
         have HC5 := Aside0.mk H
         clear H
         have p184 : 0 ≤ (x3_1 : Int) := of_decide_eq_true am
         have q184 : x3_1 < (l0.length : Int) := of_decide_eq_true am
         obtain ⟨ad184, A184_2, c184_2, e184, hx184_0, hx184_1, hx184_2, hl184_2, hi184_2⟩ := at_T81 HR0.out x3_1 p184 q184
         cases e184
         replace hx184_0 := cw hx184_0
         replace hx184_1 := cw hx184_1
         replace hx184_2 := cw hx184_2
         have HR184_2 := Aside0.mk hi184_2
         have HC184_2 := Aside0.mk hl184_2
         clear hi184_2 hl184_2
         replace p184 := eq_true p184
         replace q184 := eq_true q184
         go_upto_region 7 with (first | ((with_reducible refine gate_dst (N := 4) rfl ?_); (try (refine gate_guard (by rfl) ?_; dsimp only)); refine bx 4 #[.string (⟨#[]⟩ : ByteArray), .string (⟨#[]⟩ : ByteArray), .slice none 0 0] 81 ?_; intro gb185 hg w6 hbox hb; have BK185 := ak hbox; have GW185 := gs hg bl; have GE185 := gs hg bl; replace HB := ak (below_step bl hb); clear hb hbox hg; obtain ⟨hcz7_0, hcz7_1, hcz7_2, hfz7_0, hfz7_1, hfz7_2⟩ := cz3 BK185))
         (try simp only [Act.put, List.setIfInBounds_toArray, List.set_cons_zero, List.set_cons_succ])
         go_cut [59] (fun v59 wc => ∃ (kq : Nat) (x59_4 : Bool), v59 = .bool x59_4 ∧ Aside0 (spec_StoreOk.j1 kq l0 x3_1 x59_4 ((rd_T81 l0 x3_1).f0) ((rd_T81 l0 x3_1).f1) ((rd_T81 l0 x3_1).f2) = some r) ∧ Aside0 (kq ≤ k1) ∧ Aside0 (wc.heap[gb185]? = some (.cells #[.string ((rd_T81 l0 x3_1).f0), .string ((rd_T81 l0 x3_1).f1), (.slice A184_2 ((rd_T81 l0 x3_1).f2).length c184_2)] 81 (0, 0))) ∧ Aside0 (Below w.heap.size w wc))
         case first =>
          have H := HC5.out
          clear HC5
          obtain ⟨t186, A80, H⟩ := bo H
          have A8 := Aside0.mk A80
          clear A80
          by_cases c9 : t186 = true
          · subst c9
            replace H := iT H
            obtain ⟨t187, A100, H⟩ := bo H
            have A10 := Aside0.mk A100
            clear A100
            by_cases c11 : t187 = true
            · subst c11
              replace H := iT H
              obtain ⟨t188, A120, H⟩ := bo H
              have A12 := Aside0.mk A120
              clear A120
              by_cases c13 : t188 = true
              · subst c13
                replace H := iT H
                by_cases c14 : x3_1 > 0
                · rw [if_pos c14] at H
                  have c14b0 : decide (0 < x3_1) = true := decide_eq_true c14
                  clear c14
                  (first | rw [c14b0] | (simp only [i64_w, i32_w]; rw [c14b0]) | skip)
                  obtain ⟨ji15, hji15⟩ : ∃ j_ : Int, (wrap64 (x3_1 - 1)) = j_ := ⟨_, rfl⟩
                  replace H : (if 0 ≤ (ji15) then (if (ji15) < (l0.length : Int) then ((spec_l03Before.f k1 ((rd_T81 l0 (ji15)).f0) ((rd_T81 l0 (ji15)).f1) ((rd_T81 l0 x3_1).f0) ((rd_T81 l0 x3_1).f1)).bind fun t191 => (spec_StoreOk.j1 k1 l0 x3_1 (!t191) ((rd_T81 l0 x3_1).f0) ((rd_T81 l0 x3_1).f1) ((rd_T81 l0 x3_1).f2))) else (none)) else (none)) = some r := by first | (rw [hji15] at H; exact H) | (simp only [hji15] at H ⊢; exact H)
                  (try rw [hji15] at A8)
                  (try rw [hji15] at A10)
                  (try rw [hji15] at A12)
                  have hji15w : (IntKind.i64.wrap (x3_1 - 1)) = ji15 := (i64_w _).trans hji15
                  by_cases c16 : 0 ≤ (ji15)
                  · rw [if_pos c16] at H
                    have c16b0 : decide (0 ≤ (ji15)) = true := decide_eq_true c16
                    clear c16
                    by_cases c17 : (ji15) < (l0.length : Int)
                    · rw [if_pos c17] at H
                      have c17b0 : decide ((ji15) < (l0.length : Int)) = true := decide_eq_true c17
                      clear c17
                      obtain ⟨t191, A180, H⟩ := bo H
                      have A18 := Aside0.mk A180
                      clear A180
                      have H' := Aside0.mk H
                      clear H
                      try go_wp2
                      have n0_ : Aside0 ((((w6.setCell ⟨gb185, 0, none⟩ (.string ((rd_T81 l0 x3_1).f0))).setCell ⟨gb185, 1, none⟩ (.string ((rd_T81 l0 x3_1).f1))).setCell ⟨gb185, 2, none⟩ (.slice A184_2 ((rd_T81 l0 x3_1).f2).length c184_2)).heap[gb185]? = some (.cells #[.string ((rd_T81 l0 x3_1).f0), .string ((rd_T81 l0 x3_1).f1), .slice A184_2 ((rd_T81 l0 x3_1).f2).length c184_2] 81 (0, 0))) := ⟨by (with_reducible repeat (first | refine blk_drewN ?_ _ | refine blk_drew ?_ | refine blk_alloc ?_ _)); refine blk_put (cs := #[.string ((rd_T81 l0 x3_1).f0), .string ((rd_T81 l0 x3_1).f1), .slice none 0 0]) ?_ 2 _ rfl; (with_reducible repeat (first | refine blk_drewN ?_ _ | refine blk_drew ?_ | refine blk_alloc ?_ _)); refine blk_put (cs := #[.string ((rd_T81 l0 x3_1).f0), .string (⟨#[]⟩ : ByteArray), .slice none 0 0]) ?_ 1 _ rfl; (with_reducible repeat (first | refine blk_drewN ?_ _ | refine blk_drew ?_ | refine blk_alloc ?_ _)); refine blk_put (cs := #[.string (⟨#[]⟩ : ByteArray), .string (⟨#[]⟩ : ByteArray), .slice none 0 0]) ?_ 0 _ rfl; (with_reducible repeat (first | refine blk_drewN ?_ _ | refine blk_drew ?_ | refine blk_alloc ?_ _)); exact BK185.out⟩
                      have n1_ : Aside0 (Below w.heap.size w (((w6.setCell ⟨gb185, 0, none⟩ (.string ((rd_T81 l0 x3_1).f0))).setCell ⟨gb185, 1, none⟩ (.string ((rd_T81 l0 x3_1).f1))).setCell ⟨gb185, 2, none⟩ (.slice A184_2 ((rd_T81 l0 x3_1).f2).length c184_2))) := ⟨bl1 GE185⟩
                      (try clear BK185)
                      (try clear HB)
                      generalize (((w6.setCell ⟨gb185, 0, none⟩ (.string ((rd_T81 l0 x3_1).f0))).setCell ⟨gb185, 1, none⟩ (.string ((rd_T81 l0 x3_1).f1))).setCell ⟨gb185, 2, none⟩ (.slice A184_2 ((rd_T81 l0 x3_1).f2).length c184_2)) = w19 at n0_ n1_ ⊢
                      have BK185 := n0_
                      have HB := n1_
                      clear n0_ n1_
                      replace BK185 := ak (blk_drew BK185.out)
                      replace HB := ak (below_drew1 HB.out)
                      have p189 : 0 ≤ ((ji15) : Int) := of_decide_eq_true am
                      have q189 : (ji15) < (l0.length : Int) := of_decide_eq_true am
                      obtain ⟨ad189, A189_2, c189_2, e189, hx189_0, hx189_1, hx189_2, hl189_2, hi189_2⟩ := at_T81 HR0.out (ji15) p189 q189
                      have hw189_2 := hx189_2
                      have hw189_1 := hx189_1
                      have hw189_0 := hx189_0
                      obtain rfl : ad184 = ad189 := (by injection e189)
                      replace hx189_0 := cw hx189_0
                      replace hx189_1 := cw hx189_1
                      replace hx189_2 := cw hx189_2
                      have HR189_2 := Aside0.mk hi189_2
                      have HC189_2 := Aside0.mk hl189_2
                      clear hi189_2 hl189_2
                      replace p189 := eq_true p189
                      replace q189 := eq_true q189
                      have p190 : 0 ≤ ((ji15) : Int) := of_decide_eq_true am
                      have q190 : (ji15) < (l0.length : Int) := of_decide_eq_true am
                      obtain ⟨ad190, A190_2, c190_2, e190, hx190_0, hx190_1, hx190_2, hl190_2, hi190_2⟩ := at_T81 HR0.out (ji15) p190 q190
                      have hw190_2 := hx190_2
                      have hw190_1 := hx190_1
                      have hw190_0 := hx190_0
                      obtain rfl : ad184 = ad190 := (by injection e190)
                      replace hx190_0 := cw hx190_0
                      replace hx190_1 := cw hx190_1
                      replace hx190_2 := cw hx190_2
                      have HR190_2 := Aside0.mk hi190_2
                      have HC190_2 := Aside0.mk hl190_2
                      clear hi190_2 hl190_2
                      replace p190 := eq_true p190
                      replace q190 := eq_true q190
                      have ea_ := Option.some.inj (hx189_2.symm.trans hx190_2)
                      injection ea_ with ea_ en_ ec_
                      subst ea_
                      subst ec_
                      clear en_
                      refine start_ (n := 41) (S := fun w' => w'.cell? ⟨gb185, 0, none⟩ = some (.string ((rd_T81 l0 x3_1).f0)) ∧ w'.cell? ⟨gb185, 1, none⟩ = some (.string ((rd_T81 l0 x3_1).f1)) ∧ w'.cell? ⟨gb185, 2, none⟩ = some (.slice A184_2 ((rd_T81 l0 x3_1).f2).length c184_2) ∧ w'.cell? (ad184.add (((ji15)).toNat * 3)) = some (.string ((rd_T81 l0 (ji15)).f0)) ∧ w'.cell? ⟨(ad184.add (((ji15)).toNat * 3)).block, (ad184.add (((ji15)).toNat * 3)).off + 1, none⟩ = some (.string ((rd_T81 l0 (ji15)).f1)) ∧ w'.cell? ⟨(ad184.add (((ji15)).toNat * 3)).block, (ad184.add (((ji15)).toNat * 3)).off + 2, none⟩ = some (.slice A189_2 ((rd_T81 l0 (ji15)).f2).length c189_2) ∧ w'.cell? (ad184.add (((ji15)).toNat * 3)) = some (.string ((rd_T81 l0 (ji15)).f0)) ∧ w'.cell? ⟨(ad184.add (((ji15)).toNat * 3)).block, (ad184.add (((ji15)).toNat * 3)).off + 1, none⟩ = some (.string ((rd_T81 l0 (ji15)).f1)) ∧ w'.cell? ⟨(ad184.add (((ji15)).toNat * 3)).block, (ad184.add (((ji15)).toNat * 3)).off + 2, none⟩ = some (.slice A189_2 ((rd_T81 l0 (ji15)).f2).length c189_2)) (ds := []) (bitsA 41 0) (by kernel_rfl) rfl rfl ⟨bc BK185 0, bc BK185 1, bc BK185 2, (cw hw189_0), (cw hw189_1), (cw hw189_2), (cw hw190_0), (cw hw190_1), (cw hw190_2)⟩ (fun hHeld => ?_); refine with_tabW spec_StoreOk.tab7 spec_StoreOk.bits7 (fun HT_ HW_ => ?_)
                      generalize w19.drew = w20 at BK185 HB HR189_2 HR190_2 hx189_0 hx189_1 hx189_2 hx190_0 hx190_1 hx190_2 hHeld ⊢
                      refine pu 0 (some 19) (bitsA 41 1) ?_
                      refine tk 1 (some 20) (bitsA 41 3) hHeld ?_ (hy := Or.inl ⟨by rfl, by rintro w' ⟨s0, s1, s2, s3, s4, s5, s6, s7, s8⟩; go_simp; with_reducible rfl⟩)
                      refine one_ (i := 2) (N := some 21) (bitsA 41 7) rfl rfl (one_of HT_.out (by kernel_rfl)) (by decide) (fun K hK => ?_)
                      refine goes_ Try.func68 (by kernel_rfl) rfl #[.string ((rd_T81 l0 x3_1).f0)] (by rfl) rfl rfl mt ?_
                      with_reducible refine (spec_NameOk.calls k1 ((rd_T81 l0 x3_1).f0) true _ A8.out).mono ?_
                      rintro e w' ⟨rfl, ⟨nd, rfl⟩⟩
                      refine ⟨_, rfl, ?_⟩
                      refine hK.out _ _ ⟨bc BK185 0, bc BK185 1, bc BK185 2, (cw hw189_0), (cw hw189_1), (cw hw189_2), (cw hw190_0), (cw hw190_1), (cw hw190_2)⟩ (fun hHeld => ?_)
                      clear hK K
                      refine nm ?_
                      refine pu 3 (some 22) (bitsA 41 15) ?_
                      refine pu 4 (some 23) (bitsA 41 31) ?_
                      refine pu 5 (some 24) (bitsA 41 63) ?_
                      refine tk 6 (some 25) (bitsA 41 127) hHeld ?_ (hy := Or.inl ⟨by rfl, by rintro w' ⟨s0, s1, s2, s3, s4, s5, s6, s7, s8⟩; go_simp; with_reducible rfl⟩)
                      refine one_ (i := 7) (N := some 26) (bitsA 41 255) rfl rfl (one_of HT_.out (by kernel_rfl)) (by decide) (fun K hK => ?_)
                      refine goes_ Try.func68 (by kernel_rfl) rfl #[.string ((rd_T81 l0 x3_1).f1)] (by rfl) rfl rfl mt ?_
                      with_reducible refine (spec_NameOk.calls k1 ((rd_T81 l0 x3_1).f1) true _ A10.out).mono ?_
                      rintro e w' ⟨rfl, ⟨nd, rfl⟩⟩
                      refine ⟨_, rfl, ?_⟩
                      refine hK.out _ _ ⟨bc BK185 0, bc BK185 1, bc BK185 2, (cw hw189_0), (cw hw189_1), (cw hw189_2), (cw hw190_0), (cw hw190_1), (cw hw190_2)⟩ (fun hHeld => ?_)
                      clear hK K
                      refine nm ?_
                      refine pu 8 (some 27) (bitsA 41 511) ?_
                      refine pu 9 (some 28) (bitsA 41 1023) ?_
                      refine pu 10 (some 29) (bitsA 41 2047) ?_
                      refine pu 11 (some 30) (bitsA 41 4095) ?_
                      refine tk 12 (some 31) (bitsA 41 8191) hHeld ?_ (hy := Or.inl ⟨by rfl, by rintro w' ⟨s0, s1, s2, s3, s4, s5, s6, s7, s8⟩; go_simp; with_reducible rfl⟩)
                      refine pu 13 (some 32) (bitsA 41 16383) ?_
                      refine one_ (i := 14) (N := some 33) (bitsA 41 32767) rfl rfl (one_of HT_.out (by kernel_rfl)) (by decide) (fun K hK => ?_)
                      refine goes_ Try.func69 (by kernel_rfl) rfl #[.int .i64 (((rd_T81 l0 x3_1).f2).length : Int), .int .i64 1, .int .i64 12] (by rfl) rfl rfl mt ?_
                      with_reducible refine (spec_l01In.calls (((rd_T81 l0 x3_1).f2).length : Int) 1 12 true _ A12.out).mono ?_
                      rintro e w' ⟨rfl, ⟨nd, rfl⟩⟩
                      refine ⟨_, rfl, ?_⟩
                      refine hK.out _ _ ⟨bc BK185 0, bc BK185 1, bc BK185 2, (cw hw189_0), (cw hw189_1), (cw hw189_2), (cw hw190_0), (cw hw190_1), (cw hw190_2)⟩ (fun hHeld => ?_)
                      clear hK K
                      refine nm ?_
                      refine pu 15 (some 34) (bitsA 41 65535) ?_
                      refine pu 16 (some 35) (bitsA 41 131071) ?_
                      refine pu 17 (some 36) (bitsA 41 262143) ?_
                      refine pu 18 (some 37) (bitsA 41 524287) ?_
                      refine pu 19 (some 38) (bitsA 41 1048575) ?_
                      refine pu 20 (some 39) (bitsA 41 2097151) ?_
                      refine pu 21 (some 40) (bitsA 41 4194303) ?_
                      refine pu 22 (some 41) (bitsA 41 8388607) ?_
                      refine pu 23 (some 42) (bitsA 41 16777215) ?_
                      refine pu 24 (some 43) (bitsA 41 33554431) ?_
                      refine pu 25 (some 44) (bitsA 41 67108863) ?_
                      refine tk 26 (some 45) (bitsA 41 134217727) hHeld ?_ (hy := Or.inl ⟨by rfl, by rintro w' ⟨s0, s1, s2, s3, s4, s5, s6, s7, s8⟩; go_simp; with_reducible rfl⟩)
                      refine pu 27 (some 46) (bitsA 41 268435455) ?_
                      refine pu 28 (some 47) (bitsA 41 536870911) ?_
                      refine pu 29 (some 48) (bitsA 41 1073741823) ?_
                      refine pu 30 (some 49) (bitsA 41 2147483647) ?_
                      refine pu 31 (some 50) (bitsA 41 4294967295) ?_
                      refine tk 32 (some 51) (bitsA 41 8589934591) hHeld ?_ (hy := Or.inl ⟨by rfl, by rintro w' ⟨s0, s1, s2, s3, s4, s5, s6, s7, s8⟩; go_simp; with_reducible rfl⟩)
                      refine pu 33 (some 52) (bitsA 41 17179869183) ?_
                      refine tk 34 (some 53) (bitsA 41 34359738367) hHeld ?_ (hy := Or.inl ⟨by rfl, by rintro w' ⟨s0, s1, s2, s3, s4, s5, s6, s7, s8⟩; go_simp; with_reducible rfl⟩)
                      refine pu 35 (some 54) (bitsA 41 68719476735) ?_
                      refine tk 36 (some 55) (bitsA 41 137438953471) hHeld ?_ (hy := Or.inl ⟨by rfl, by rintro w' ⟨s0, s1, s2, s3, s4, s5, s6, s7, s8⟩; go_simp; with_reducible rfl⟩)
                      refine one_ (i := 37) (N := some 56) (bitsA 41 274877906943) rfl rfl (one_of HT_.out (by kernel_rfl)) (by decide) (fun K hK => ?_)
                      refine goes_ Try.func70 (by kernel_rfl) rfl #[.string ((rd_T81 l0 (ji15)).f0), .string ((rd_T81 l0 (ji15)).f1), .string ((rd_T81 l0 x3_1).f0), .string ((rd_T81 l0 x3_1).f1)] (by rfl) rfl rfl (by (try simp only [List.map_toArray, List.map_cons, List.map_nil]); first | done | (simp only [hji15]; rfl) | rfl | (simp only [List.length_drop, List.length_take]; rfl)) ?_
                      with_reducible refine (spec_l03Before.calls k1 ((rd_T81 l0 (ji15)).f0) ((rd_T81 l0 (ji15)).f1) ((rd_T81 l0 x3_1).f0) ((rd_T81 l0 x3_1).f1) t191 _ A18.out).mono ?_
                      rintro e w' ⟨rfl, ⟨nd, rfl⟩⟩
                      refine ⟨_, rfl, ?_⟩
                      refine hK.out _ _ ⟨bc BK185 0, bc BK185 1, bc BK185 2, (cw hw189_0), (cw hw189_1), (cw hw189_2), (cw hw190_0), (cw hw190_1), (cw hw190_2)⟩ (fun hHeld => ?_)
                      clear hK K
                      refine nm ?_
                      refine pu 38 (some 57) (bitsA 41 549755813887) ?_
                      refine pu 39 (some 58) (bitsA 41 1099511627775) ?_
                      refine pu 40 (some 59) (bitsA 41 2199023255551) ?_
                      refine done_ (done_of HT_.out (by kernel_rfl)) ?_
                      try go_wp2
                      go_meet
                      case rel => exact ⟨_, (!t191), es, H', ⟨ko⟩, ⟨bk BK185⟩, ⟨bl1 GE185⟩⟩
                    · rw [if_neg c17] at H
                      exact absurd H (by simp)
                  · rw [if_neg c16] at H
                    exact absurd H (by simp)
                · rw [if_neg c14] at H
                  have c14b0 : decide (0 < x3_1) = false := decide_eq_false c14
                  clear c14
                  (first | rw [c14b0] | (simp only [i64_w, i32_w]; rw [c14b0]) | skip)
                  have H' := Aside0.mk H
                  clear H
                  try go_wp2
                  have n0_ : Aside0 ((((w6.setCell ⟨gb185, 0, none⟩ (.string ((rd_T81 l0 x3_1).f0))).setCell ⟨gb185, 1, none⟩ (.string ((rd_T81 l0 x3_1).f1))).setCell ⟨gb185, 2, none⟩ (.slice A184_2 ((rd_T81 l0 x3_1).f2).length c184_2)).heap[gb185]? = some (.cells #[.string ((rd_T81 l0 x3_1).f0), .string ((rd_T81 l0 x3_1).f1), .slice A184_2 ((rd_T81 l0 x3_1).f2).length c184_2] 81 (0, 0))) := ⟨by (with_reducible repeat (first | refine blk_drewN ?_ _ | refine blk_drew ?_ | refine blk_alloc ?_ _)); refine blk_put (cs := #[.string ((rd_T81 l0 x3_1).f0), .string ((rd_T81 l0 x3_1).f1), .slice none 0 0]) ?_ 2 _ rfl; (with_reducible repeat (first | refine blk_drewN ?_ _ | refine blk_drew ?_ | refine blk_alloc ?_ _)); refine blk_put (cs := #[.string ((rd_T81 l0 x3_1).f0), .string (⟨#[]⟩ : ByteArray), .slice none 0 0]) ?_ 1 _ rfl; (with_reducible repeat (first | refine blk_drewN ?_ _ | refine blk_drew ?_ | refine blk_alloc ?_ _)); refine blk_put (cs := #[.string (⟨#[]⟩ : ByteArray), .string (⟨#[]⟩ : ByteArray), .slice none 0 0]) ?_ 0 _ rfl; (with_reducible repeat (first | refine blk_drewN ?_ _ | refine blk_drew ?_ | refine blk_alloc ?_ _)); exact BK185.out⟩
                  have n1_ : Aside0 (Below w.heap.size w (((w6.setCell ⟨gb185, 0, none⟩ (.string ((rd_T81 l0 x3_1).f0))).setCell ⟨gb185, 1, none⟩ (.string ((rd_T81 l0 x3_1).f1))).setCell ⟨gb185, 2, none⟩ (.slice A184_2 ((rd_T81 l0 x3_1).f2).length c184_2))) := ⟨bl1 GE185⟩
                  (try clear BK185)
                  (try clear HB)
                  generalize (((w6.setCell ⟨gb185, 0, none⟩ (.string ((rd_T81 l0 x3_1).f0))).setCell ⟨gb185, 1, none⟩ (.string ((rd_T81 l0 x3_1).f1))).setCell ⟨gb185, 2, none⟩ (.slice A184_2 ((rd_T81 l0 x3_1).f2).length c184_2)) = w21 at n0_ n1_ ⊢
                  have BK185 := n0_
                  have HB := n1_
                  clear n0_ n1_
                  replace BK185 := ak (blk_drew BK185.out)
                  replace HB := ak (below_drew1 HB.out)
                  refine start_ (n := 41) (S := fun w' => w'.cell? ⟨gb185, 0, none⟩ = some (.string ((rd_T81 l0 x3_1).f0)) ∧ w'.cell? ⟨gb185, 1, none⟩ = some (.string ((rd_T81 l0 x3_1).f1)) ∧ w'.cell? ⟨gb185, 2, none⟩ = some (.slice A184_2 ((rd_T81 l0 x3_1).f2).length c184_2)) (ds := []) (bitsA 41 0) (by kernel_rfl) rfl rfl ⟨bc BK185 0, bc BK185 1, bc BK185 2⟩ (fun hHeld => ?_); refine with_tabW spec_StoreOk.tab7 spec_StoreOk.bits7 (fun HT_ HW_ => ?_)
                  generalize w21.drew = w22 at BK185 HB hHeld ⊢
                  refine pu 0 (some 19) (bitsA 41 1) ?_
                  refine tk 1 (some 20) (bitsA 41 3) hHeld ?_ (hy := Or.inl ⟨by rfl, by rintro w' ⟨s0, s1, s2⟩; go_simp; with_reducible rfl⟩)
                  refine one_ (i := 2) (N := some 21) (bitsA 41 7) rfl rfl (one_of HT_.out (by kernel_rfl)) (by decide) (fun K hK => ?_)
                  refine goes_ Try.func68 (by kernel_rfl) rfl #[.string ((rd_T81 l0 x3_1).f0)] (by rfl) rfl rfl mt ?_
                  with_reducible refine (spec_NameOk.calls k1 ((rd_T81 l0 x3_1).f0) true _ A8.out).mono ?_
                  rintro e w' ⟨rfl, ⟨nd, rfl⟩⟩
                  refine ⟨_, rfl, ?_⟩
                  refine hK.out _ _ ⟨bc BK185 0, bc BK185 1, bc BK185 2⟩ (fun hHeld => ?_)
                  clear hK K
                  refine nm ?_
                  refine pu 3 (some 22) (bitsA 41 15) ?_
                  refine pu 4 (some 23) (bitsA 41 31) ?_
                  refine pu 5 (some 24) (bitsA 41 63) ?_
                  refine tk 6 (some 25) (bitsA 41 127) hHeld ?_ (hy := Or.inl ⟨by rfl, by rintro w' ⟨s0, s1, s2⟩; go_simp; with_reducible rfl⟩)
                  refine one_ (i := 7) (N := some 26) (bitsA 41 255) rfl rfl (one_of HT_.out (by kernel_rfl)) (by decide) (fun K hK => ?_)
                  refine goes_ Try.func68 (by kernel_rfl) rfl #[.string ((rd_T81 l0 x3_1).f1)] (by rfl) rfl rfl mt ?_
                  with_reducible refine (spec_NameOk.calls k1 ((rd_T81 l0 x3_1).f1) true _ A10.out).mono ?_
                  rintro e w' ⟨rfl, ⟨nd, rfl⟩⟩
                  refine ⟨_, rfl, ?_⟩
                  refine hK.out _ _ ⟨bc BK185 0, bc BK185 1, bc BK185 2⟩ (fun hHeld => ?_)
                  clear hK K
                  refine nm ?_
                  refine pu 8 (some 27) (bitsA 41 511) ?_
                  refine pu 9 (some 28) (bitsA 41 1023) ?_
                  refine pu 10 (some 29) (bitsA 41 2047) ?_
                  refine pu 11 (some 30) (bitsA 41 4095) ?_
                  refine tk 12 (some 31) (bitsA 41 8191) hHeld ?_ (hy := Or.inl ⟨by rfl, by rintro w' ⟨s0, s1, s2⟩; go_simp; with_reducible rfl⟩)
                  refine pu 13 (some 32) (bitsA 41 16383) ?_
                  refine one_ (i := 14) (N := some 33) (bitsA 41 32767) rfl rfl (one_of HT_.out (by kernel_rfl)) (by decide) (fun K hK => ?_)
                  refine goes_ Try.func69 (by kernel_rfl) rfl #[.int .i64 (((rd_T81 l0 x3_1).f2).length : Int), .int .i64 1, .int .i64 12] (by rfl) rfl rfl mt ?_
                  with_reducible refine (spec_l01In.calls (((rd_T81 l0 x3_1).f2).length : Int) 1 12 true _ A12.out).mono ?_
                  rintro e w' ⟨rfl, ⟨nd, rfl⟩⟩
                  refine ⟨_, rfl, ?_⟩
                  refine hK.out _ _ ⟨bc BK185 0, bc BK185 1, bc BK185 2⟩ (fun hHeld => ?_)
                  clear hK K
                  refine nm ?_
                  refine pu 15 (some 34) (bitsA 41 65535) ?_
                  refine pu 16 (some 35) (bitsA 41 131071) ?_
                  refine pu 17 (some 36) (bitsA 41 262143) ?_
                  refine pu 18 (some 37) (bitsA 41 524287) ?_
                  refine pu 19 (some 38) (bitsA 41 1048575) ?_
                  refine pu 20 (some 39) (bitsA 41 2097151) ?_
                  refine pure_ (i := 21) (N := some 40) (v := undef) (a' := ?_) (bitsA 41 4194303) rfl rfl (any_of HT_.out (by kernel_rfl)) (fun _ _ _ h => h) (Or.inr ⟨by rfl, rfl⟩) ?_ ?_; rotate_left; (· (simp only [Act.put, List.setIfInBounds_toArray, List.set_cons_zero, List.set_cons_succ, i64_w, i32_w]; rfl))
                  refine pure_ (i := 22) (N := some 41) (v := undef) (a' := ?_) (bitsA 41 8388607) rfl rfl (any_of HT_.out (by kernel_rfl)) (fun _ _ _ h => h) (Or.inr ⟨by rfl, rfl⟩) ?_ ?_; rotate_left; (· (simp only [Act.put, List.setIfInBounds_toArray, List.set_cons_zero, List.set_cons_succ, i64_w, i32_w]; rfl))
                  refine pure_ (i := 23) (N := some 42) (v := undef) (a' := ?_) (bitsA 41 16777215) rfl rfl (any_of HT_.out (by kernel_rfl)) (fun _ _ _ h => h) (Or.inr ⟨by rfl, rfl⟩) ?_ ?_; rotate_left; (· (simp only [Act.put, List.setIfInBounds_toArray, List.set_cons_zero, List.set_cons_succ, i64_w, i32_w]; rfl))
                  refine pure_ (i := 24) (N := some 43) (v := undef) (a' := ?_) (bitsA 41 33554431) rfl rfl (any_of HT_.out (by kernel_rfl)) (fun _ _ _ h => h) (Or.inr ⟨by rfl, rfl⟩) ?_ ?_; rotate_left; (· (simp only [Act.put, List.setIfInBounds_toArray, List.set_cons_zero, List.set_cons_succ, i64_w, i32_w]; rfl))
                  refine pure_ (i := 25) (N := some 44) (v := undef) (a' := ?_) (bitsA 41 67108863) rfl rfl (any_of HT_.out (by kernel_rfl)) (fun _ _ _ h => h) (Or.inr ⟨by rfl, rfl⟩) ?_ ?_; rotate_left; (· (simp only [Act.put, List.setIfInBounds_toArray, List.set_cons_zero, List.set_cons_succ, i64_w, i32_w]; rfl))
                  refine pure_ (i := 26) (N := some 45) (v := undef) (a' := ?_) (bitsA 41 134217727) rfl rfl (any_of HT_.out (by kernel_rfl)) (fun _ _ _ h => h) (Or.inr ⟨by rfl, rfl⟩) ?_ ?_; rotate_left; (· (simp only [Act.put, List.setIfInBounds_toArray, List.set_cons_zero, List.set_cons_succ, i64_w, i32_w]; rfl))
                  refine pure_ (i := 27) (N := some 46) (v := undef) (a' := ?_) (bitsA 41 268435455) rfl rfl (any_of HT_.out (by kernel_rfl)) (fun _ _ _ h => h) (Or.inr ⟨by rfl, rfl⟩) ?_ ?_; rotate_left; (· (simp only [Act.put, List.setIfInBounds_toArray, List.set_cons_zero, List.set_cons_succ, i64_w, i32_w]; rfl))
                  refine pure_ (i := 28) (N := some 47) (v := undef) (a' := ?_) (bitsA 41 536870911) rfl rfl (any_of HT_.out (by kernel_rfl)) (fun _ _ _ h => h) (Or.inr ⟨by rfl, rfl⟩) ?_ ?_; rotate_left; (· (simp only [Act.put, List.setIfInBounds_toArray, List.set_cons_zero, List.set_cons_succ, i64_w, i32_w]; rfl))
                  refine pure_ (i := 29) (N := some 48) (v := undef) (a' := ?_) (bitsA 41 1073741823) rfl rfl (any_of HT_.out (by kernel_rfl)) (fun _ _ _ h => h) (Or.inr ⟨by rfl, rfl⟩) ?_ ?_; rotate_left; (· (simp only [Act.put, List.setIfInBounds_toArray, List.set_cons_zero, List.set_cons_succ, i64_w, i32_w]; rfl))
                  refine pure_ (i := 30) (N := some 49) (v := undef) (a' := ?_) (bitsA 41 2147483647) rfl rfl (any_of HT_.out (by kernel_rfl)) (fun _ _ _ h => h) (Or.inr ⟨by rfl, rfl⟩) ?_ ?_; rotate_left; (· (simp only [Act.put, List.setIfInBounds_toArray, List.set_cons_zero, List.set_cons_succ, i64_w, i32_w]; rfl))
                  refine pure_ (i := 31) (N := some 50) (v := undef) (a' := ?_) (bitsA 41 4294967295) rfl rfl (any_of HT_.out (by kernel_rfl)) (fun _ _ _ h => h) (Or.inr ⟨by rfl, rfl⟩) ?_ ?_; rotate_left; (· (simp only [Act.put, List.setIfInBounds_toArray, List.set_cons_zero, List.set_cons_succ, i64_w, i32_w]; rfl))
                  refine pure_ (i := 32) (N := some 51) (v := undef) (a' := ?_) (bitsA 41 8589934591) rfl rfl (any_of HT_.out (by kernel_rfl)) (fun _ _ _ h => h) (Or.inr ⟨by rfl, rfl⟩) ?_ ?_; rotate_left; (· (simp only [Act.put, List.setIfInBounds_toArray, List.set_cons_zero, List.set_cons_succ, i64_w, i32_w]; rfl))
                  refine pure_ (i := 33) (N := some 52) (v := undef) (a' := ?_) (bitsA 41 17179869183) rfl rfl (any_of HT_.out (by kernel_rfl)) (fun _ _ _ h => h) (Or.inr ⟨by rfl, rfl⟩) ?_ ?_; rotate_left; (· (simp only [Act.put, List.setIfInBounds_toArray, List.set_cons_zero, List.set_cons_succ, i64_w, i32_w]; rfl))
                  refine pure_ (i := 34) (N := some 53) (v := undef) (a' := ?_) (bitsA 41 34359738367) rfl rfl (any_of HT_.out (by kernel_rfl)) (fun _ _ _ h => h) (Or.inr ⟨by rfl, rfl⟩) ?_ ?_; rotate_left; (· (simp only [Act.put, List.setIfInBounds_toArray, List.set_cons_zero, List.set_cons_succ, i64_w, i32_w]; rfl))
                  refine pure_ (i := 35) (N := some 54) (v := undef) (a' := ?_) (bitsA 41 68719476735) rfl rfl (any_of HT_.out (by kernel_rfl)) (fun _ _ _ h => h) (Or.inr ⟨by rfl, rfl⟩) ?_ ?_; rotate_left; (· (simp only [Act.put, List.setIfInBounds_toArray, List.set_cons_zero, List.set_cons_succ, i64_w, i32_w]; rfl))
                  refine pure_ (i := 36) (N := some 55) (v := undef) (a' := ?_) (bitsA 41 137438953471) rfl rfl (any_of HT_.out (by kernel_rfl)) (fun _ _ _ h => h) (Or.inr ⟨by rfl, rfl⟩) ?_ ?_; rotate_left; (· (simp only [Act.put, List.setIfInBounds_toArray, List.set_cons_zero, List.set_cons_succ, i64_w, i32_w]; rfl))
                  refine pure_ (i := 37) (N := some 56) (v := undef) (a' := ?_) (bitsA 41 274877906943) rfl rfl (any_of HT_.out (by kernel_rfl)) (fun _ _ _ h => h) (Or.inr ⟨by rfl, rfl⟩) ?_ ?_; rotate_left; (· (simp only [Act.put, List.setIfInBounds_toArray, List.set_cons_zero, List.set_cons_succ, i64_w, i32_w]; rfl))
                  refine pure_ (i := 38) (N := some 57) (v := undef) (a' := ?_) (bitsA 41 549755813887) rfl rfl (any_of HT_.out (by kernel_rfl)) (fun _ _ _ h => h) (Or.inr ⟨by rfl, rfl⟩) ?_ ?_; rotate_left; (· (simp only [Act.put, List.setIfInBounds_toArray, List.set_cons_zero, List.set_cons_succ, i64_w, i32_w]; rfl))
                  refine pu 39 (some 58) (bitsA 41 1099511627775) ?_
                  refine pu 40 (some 59) (bitsA 41 2199023255551) ?_
                  refine done_ (done_of HT_.out (by kernel_rfl)) ?_
                  try go_wp2
                  go_meet
                  case rel => exact ⟨_, (false), es, H', ⟨ko⟩, ⟨bk BK185⟩, ⟨bl1 GE185⟩⟩
              · replace c13 := Bool.eq_false_iff.mpr c13
                subst c13
                replace H := iF H
                have H' := Aside0.mk H
                clear H
                try go_wp2
                have n0_ : Aside0 ((((w6.setCell ⟨gb185, 0, none⟩ (.string ((rd_T81 l0 x3_1).f0))).setCell ⟨gb185, 1, none⟩ (.string ((rd_T81 l0 x3_1).f1))).setCell ⟨gb185, 2, none⟩ (.slice A184_2 ((rd_T81 l0 x3_1).f2).length c184_2)).heap[gb185]? = some (.cells #[.string ((rd_T81 l0 x3_1).f0), .string ((rd_T81 l0 x3_1).f1), .slice A184_2 ((rd_T81 l0 x3_1).f2).length c184_2] 81 (0, 0))) := ⟨by (with_reducible repeat (first | refine blk_drewN ?_ _ | refine blk_drew ?_ | refine blk_alloc ?_ _)); refine blk_put (cs := #[.string ((rd_T81 l0 x3_1).f0), .string ((rd_T81 l0 x3_1).f1), .slice none 0 0]) ?_ 2 _ rfl; (with_reducible repeat (first | refine blk_drewN ?_ _ | refine blk_drew ?_ | refine blk_alloc ?_ _)); refine blk_put (cs := #[.string ((rd_T81 l0 x3_1).f0), .string (⟨#[]⟩ : ByteArray), .slice none 0 0]) ?_ 1 _ rfl; (with_reducible repeat (first | refine blk_drewN ?_ _ | refine blk_drew ?_ | refine blk_alloc ?_ _)); refine blk_put (cs := #[.string (⟨#[]⟩ : ByteArray), .string (⟨#[]⟩ : ByteArray), .slice none 0 0]) ?_ 0 _ rfl; (with_reducible repeat (first | refine blk_drewN ?_ _ | refine blk_drew ?_ | refine blk_alloc ?_ _)); exact BK185.out⟩
                have n1_ : Aside0 (Below w.heap.size w (((w6.setCell ⟨gb185, 0, none⟩ (.string ((rd_T81 l0 x3_1).f0))).setCell ⟨gb185, 1, none⟩ (.string ((rd_T81 l0 x3_1).f1))).setCell ⟨gb185, 2, none⟩ (.slice A184_2 ((rd_T81 l0 x3_1).f2).length c184_2))) := ⟨bl1 GE185⟩
                (try clear BK185)
                (try clear HB)
                generalize (((w6.setCell ⟨gb185, 0, none⟩ (.string ((rd_T81 l0 x3_1).f0))).setCell ⟨gb185, 1, none⟩ (.string ((rd_T81 l0 x3_1).f1))).setCell ⟨gb185, 2, none⟩ (.slice A184_2 ((rd_T81 l0 x3_1).f2).length c184_2)) = w23 at n0_ n1_ ⊢
                have BK185 := n0_
                have HB := n1_
                clear n0_ n1_
                replace BK185 := ak (blk_drew BK185.out)
                replace HB := ak (below_drew1 HB.out)
                refine start_ (n := 41) (S := fun w' => w'.cell? ⟨gb185, 0, none⟩ = some (.string ((rd_T81 l0 x3_1).f0)) ∧ w'.cell? ⟨gb185, 1, none⟩ = some (.string ((rd_T81 l0 x3_1).f1)) ∧ w'.cell? ⟨gb185, 2, none⟩ = some (.slice A184_2 ((rd_T81 l0 x3_1).f2).length c184_2)) (ds := []) (bitsA 41 0) (by kernel_rfl) rfl rfl ⟨bc BK185 0, bc BK185 1, bc BK185 2⟩ (fun hHeld => ?_); refine with_tabW spec_StoreOk.tab7 spec_StoreOk.bits7 (fun HT_ HW_ => ?_)
                generalize w23.drew = w24 at BK185 HB hHeld ⊢
                refine pu 0 (some 19) (bitsA 41 1) ?_
                refine tk 1 (some 20) (bitsA 41 3) hHeld ?_ (hy := Or.inl ⟨by rfl, by rintro w' ⟨s0, s1, s2⟩; go_simp; with_reducible rfl⟩)
                refine one_ (i := 2) (N := some 21) (bitsA 41 7) rfl rfl (one_of HT_.out (by kernel_rfl)) (by decide) (fun K hK => ?_)
                refine goes_ Try.func68 (by kernel_rfl) rfl #[.string ((rd_T81 l0 x3_1).f0)] (by rfl) rfl rfl mt ?_
                with_reducible refine (spec_NameOk.calls k1 ((rd_T81 l0 x3_1).f0) true _ A8.out).mono ?_
                rintro e w' ⟨rfl, ⟨nd, rfl⟩⟩
                refine ⟨_, rfl, ?_⟩
                refine hK.out _ _ ⟨bc BK185 0, bc BK185 1, bc BK185 2⟩ (fun hHeld => ?_)
                clear hK K
                refine nm ?_
                refine pu 3 (some 22) (bitsA 41 15) ?_
                refine pu 4 (some 23) (bitsA 41 31) ?_
                refine pu 5 (some 24) (bitsA 41 63) ?_
                refine tk 6 (some 25) (bitsA 41 127) hHeld ?_ (hy := Or.inl ⟨by rfl, by rintro w' ⟨s0, s1, s2⟩; go_simp; with_reducible rfl⟩)
                refine one_ (i := 7) (N := some 26) (bitsA 41 255) rfl rfl (one_of HT_.out (by kernel_rfl)) (by decide) (fun K hK => ?_)
                refine goes_ Try.func68 (by kernel_rfl) rfl #[.string ((rd_T81 l0 x3_1).f1)] (by rfl) rfl rfl mt ?_
                with_reducible refine (spec_NameOk.calls k1 ((rd_T81 l0 x3_1).f1) true _ A10.out).mono ?_
                rintro e w' ⟨rfl, ⟨nd, rfl⟩⟩
                refine ⟨_, rfl, ?_⟩
                refine hK.out _ _ ⟨bc BK185 0, bc BK185 1, bc BK185 2⟩ (fun hHeld => ?_)
                clear hK K
                refine nm ?_
                refine pu 8 (some 27) (bitsA 41 511) ?_
                refine pu 9 (some 28) (bitsA 41 1023) ?_
                refine pu 10 (some 29) (bitsA 41 2047) ?_
                refine pu 11 (some 30) (bitsA 41 4095) ?_
                refine tk 12 (some 31) (bitsA 41 8191) hHeld ?_ (hy := Or.inl ⟨by rfl, by rintro w' ⟨s0, s1, s2⟩; go_simp; with_reducible rfl⟩)
                refine pu 13 (some 32) (bitsA 41 16383) ?_
                refine one_ (i := 14) (N := some 33) (bitsA 41 32767) rfl rfl (one_of HT_.out (by kernel_rfl)) (by decide) (fun K hK => ?_)
                refine goes_ Try.func69 (by kernel_rfl) rfl #[.int .i64 (((rd_T81 l0 x3_1).f2).length : Int), .int .i64 1, .int .i64 12] (by rfl) rfl rfl mt ?_
                with_reducible refine (spec_l01In.calls (((rd_T81 l0 x3_1).f2).length : Int) 1 12 false _ A12.out).mono ?_
                rintro e w' ⟨rfl, ⟨nd, rfl⟩⟩
                refine ⟨_, rfl, ?_⟩
                refine hK.out _ _ ⟨bc BK185 0, bc BK185 1, bc BK185 2⟩ (fun hHeld => ?_)
                clear hK K
                refine nm ?_
                refine pu 15 (some 34) (bitsA 41 65535) ?_
                refine pu 16 (some 35) (bitsA 41 131071) ?_
                refine pu 17 (some 36) (bitsA 41 262143) ?_
                refine pure_ (i := 18) (N := some 37) (v := undef) (a' := ?_) (bitsA 41 524287) rfl rfl (any_of HT_.out (by kernel_rfl)) (fun _ _ _ h => h) (Or.inr ⟨by rfl, rfl⟩) ?_ ?_; rotate_left; (· (simp only [Act.put, List.setIfInBounds_toArray, List.set_cons_zero, List.set_cons_succ, i64_w, i32_w]; rfl))
                refine pure_ (i := 19) (N := some 38) (v := undef) (a' := ?_) (bitsA 41 1048575) rfl rfl (any_of HT_.out (by kernel_rfl)) (fun _ _ _ h => h) (Or.inr ⟨by rfl, rfl⟩) ?_ ?_; rotate_left; (· (simp only [Act.put, List.setIfInBounds_toArray, List.set_cons_zero, List.set_cons_succ, i64_w, i32_w]; rfl))
                refine pure_ (i := 20) (N := some 39) (v := undef) (a' := ?_) (bitsA 41 2097151) rfl rfl (any_of HT_.out (by kernel_rfl)) (fun _ _ _ h => h) (Or.inr ⟨by rfl, rfl⟩) ?_ ?_; rotate_left; (· (simp only [Act.put, List.setIfInBounds_toArray, List.set_cons_zero, List.set_cons_succ, i64_w, i32_w]; rfl))
                refine pure_ (i := 21) (N := some 40) (v := undef) (a' := ?_) (bitsA 41 4194303) rfl rfl (any_of HT_.out (by kernel_rfl)) (fun _ _ _ h => h) (Or.inr ⟨by rfl, rfl⟩) ?_ ?_; rotate_left; (· (simp only [Act.put, List.setIfInBounds_toArray, List.set_cons_zero, List.set_cons_succ, i64_w, i32_w]; rfl))
                refine pure_ (i := 22) (N := some 41) (v := undef) (a' := ?_) (bitsA 41 8388607) rfl rfl (any_of HT_.out (by kernel_rfl)) (fun _ _ _ h => h) (Or.inr ⟨by rfl, rfl⟩) ?_ ?_; rotate_left; (· (simp only [Act.put, List.setIfInBounds_toArray, List.set_cons_zero, List.set_cons_succ, i64_w, i32_w]; rfl))
                refine pure_ (i := 23) (N := some 42) (v := undef) (a' := ?_) (bitsA 41 16777215) rfl rfl (any_of HT_.out (by kernel_rfl)) (fun _ _ _ h => h) (Or.inr ⟨by rfl, rfl⟩) ?_ ?_; rotate_left; (· (simp only [Act.put, List.setIfInBounds_toArray, List.set_cons_zero, List.set_cons_succ, i64_w, i32_w]; rfl))
                refine pure_ (i := 24) (N := some 43) (v := undef) (a' := ?_) (bitsA 41 33554431) rfl rfl (any_of HT_.out (by kernel_rfl)) (fun _ _ _ h => h) (Or.inr ⟨by rfl, rfl⟩) ?_ ?_; rotate_left; (· (simp only [Act.put, List.setIfInBounds_toArray, List.set_cons_zero, List.set_cons_succ, i64_w, i32_w]; rfl))
                refine pure_ (i := 25) (N := some 44) (v := undef) (a' := ?_) (bitsA 41 67108863) rfl rfl (any_of HT_.out (by kernel_rfl)) (fun _ _ _ h => h) (Or.inr ⟨by rfl, rfl⟩) ?_ ?_; rotate_left; (· (simp only [Act.put, List.setIfInBounds_toArray, List.set_cons_zero, List.set_cons_succ, i64_w, i32_w]; rfl))
                refine pure_ (i := 26) (N := some 45) (v := undef) (a' := ?_) (bitsA 41 134217727) rfl rfl (any_of HT_.out (by kernel_rfl)) (fun _ _ _ h => h) (Or.inr ⟨by rfl, rfl⟩) ?_ ?_; rotate_left; (· (simp only [Act.put, List.setIfInBounds_toArray, List.set_cons_zero, List.set_cons_succ, i64_w, i32_w]; rfl))
                refine pure_ (i := 27) (N := some 46) (v := undef) (a' := ?_) (bitsA 41 268435455) rfl rfl (any_of HT_.out (by kernel_rfl)) (fun _ _ _ h => h) (Or.inr ⟨by rfl, rfl⟩) ?_ ?_; rotate_left; (· (simp only [Act.put, List.setIfInBounds_toArray, List.set_cons_zero, List.set_cons_succ, i64_w, i32_w]; rfl))
                refine pure_ (i := 28) (N := some 47) (v := undef) (a' := ?_) (bitsA 41 536870911) rfl rfl (any_of HT_.out (by kernel_rfl)) (fun _ _ _ h => h) (Or.inr ⟨by rfl, rfl⟩) ?_ ?_; rotate_left; (· (simp only [Act.put, List.setIfInBounds_toArray, List.set_cons_zero, List.set_cons_succ, i64_w, i32_w]; rfl))
                refine pure_ (i := 29) (N := some 48) (v := undef) (a' := ?_) (bitsA 41 1073741823) rfl rfl (any_of HT_.out (by kernel_rfl)) (fun _ _ _ h => h) (Or.inr ⟨by rfl, rfl⟩) ?_ ?_; rotate_left; (· (simp only [Act.put, List.setIfInBounds_toArray, List.set_cons_zero, List.set_cons_succ, i64_w, i32_w]; rfl))
                refine pure_ (i := 30) (N := some 49) (v := undef) (a' := ?_) (bitsA 41 2147483647) rfl rfl (any_of HT_.out (by kernel_rfl)) (fun _ _ _ h => h) (Or.inr ⟨by rfl, rfl⟩) ?_ ?_; rotate_left; (· (simp only [Act.put, List.setIfInBounds_toArray, List.set_cons_zero, List.set_cons_succ, i64_w, i32_w]; rfl))
                refine pure_ (i := 31) (N := some 50) (v := undef) (a' := ?_) (bitsA 41 4294967295) rfl rfl (any_of HT_.out (by kernel_rfl)) (fun _ _ _ h => h) (Or.inr ⟨by rfl, rfl⟩) ?_ ?_; rotate_left; (· (simp only [Act.put, List.setIfInBounds_toArray, List.set_cons_zero, List.set_cons_succ, i64_w, i32_w]; rfl))
                refine pure_ (i := 32) (N := some 51) (v := undef) (a' := ?_) (bitsA 41 8589934591) rfl rfl (any_of HT_.out (by kernel_rfl)) (fun _ _ _ h => h) (Or.inr ⟨by rfl, rfl⟩) ?_ ?_; rotate_left; (· (simp only [Act.put, List.setIfInBounds_toArray, List.set_cons_zero, List.set_cons_succ, i64_w, i32_w]; rfl))
                refine pure_ (i := 33) (N := some 52) (v := undef) (a' := ?_) (bitsA 41 17179869183) rfl rfl (any_of HT_.out (by kernel_rfl)) (fun _ _ _ h => h) (Or.inr ⟨by rfl, rfl⟩) ?_ ?_; rotate_left; (· (simp only [Act.put, List.setIfInBounds_toArray, List.set_cons_zero, List.set_cons_succ, i64_w, i32_w]; rfl))
                refine pure_ (i := 34) (N := some 53) (v := undef) (a' := ?_) (bitsA 41 34359738367) rfl rfl (any_of HT_.out (by kernel_rfl)) (fun _ _ _ h => h) (Or.inr ⟨by rfl, rfl⟩) ?_ ?_; rotate_left; (· (simp only [Act.put, List.setIfInBounds_toArray, List.set_cons_zero, List.set_cons_succ, i64_w, i32_w]; rfl))
                refine pure_ (i := 35) (N := some 54) (v := undef) (a' := ?_) (bitsA 41 68719476735) rfl rfl (any_of HT_.out (by kernel_rfl)) (fun _ _ _ h => h) (Or.inr ⟨by rfl, rfl⟩) ?_ ?_; rotate_left; (· (simp only [Act.put, List.setIfInBounds_toArray, List.set_cons_zero, List.set_cons_succ, i64_w, i32_w]; rfl))
                refine pure_ (i := 36) (N := some 55) (v := undef) (a' := ?_) (bitsA 41 137438953471) rfl rfl (any_of HT_.out (by kernel_rfl)) (fun _ _ _ h => h) (Or.inr ⟨by rfl, rfl⟩) ?_ ?_; rotate_left; (· (simp only [Act.put, List.setIfInBounds_toArray, List.set_cons_zero, List.set_cons_succ, i64_w, i32_w]; rfl))
                refine pure_ (i := 37) (N := some 56) (v := undef) (a' := ?_) (bitsA 41 274877906943) rfl rfl (any_of HT_.out (by kernel_rfl)) (fun _ _ _ h => h) (Or.inr ⟨by rfl, rfl⟩) ?_ ?_; rotate_left; (· (simp only [Act.put, List.setIfInBounds_toArray, List.set_cons_zero, List.set_cons_succ, i64_w, i32_w]; rfl))
                refine pure_ (i := 38) (N := some 57) (v := undef) (a' := ?_) (bitsA 41 549755813887) rfl rfl (any_of HT_.out (by kernel_rfl)) (fun _ _ _ h => h) (Or.inr ⟨by rfl, rfl⟩) ?_ ?_; rotate_left; (· (simp only [Act.put, List.setIfInBounds_toArray, List.set_cons_zero, List.set_cons_succ, i64_w, i32_w]; rfl))
                refine pure_ (i := 39) (N := some 58) (v := undef) (a' := ?_) (bitsA 41 1099511627775) rfl rfl (any_of HT_.out (by kernel_rfl)) (fun _ _ _ h => h) (Or.inr ⟨by rfl, rfl⟩) ?_ ?_; rotate_left; (· (simp only [Act.put, List.setIfInBounds_toArray, List.set_cons_zero, List.set_cons_succ, i64_w, i32_w]; rfl))
                refine pu 40 (some 59) (bitsA 41 2199023255551) ?_
                refine done_ (done_of HT_.out (by kernel_rfl)) ?_
                try go_wp2
                go_meet
                case rel => exact ⟨_, (true), es, H', ⟨ko⟩, ⟨bk BK185⟩, ⟨bl1 GE185⟩⟩
            · replace c11 := Bool.eq_false_iff.mpr c11
              subst c11
              replace H := iF H
              have H' := Aside0.mk H
              clear H
              try go_wp2
              have n0_ : Aside0 ((((w6.setCell ⟨gb185, 0, none⟩ (.string ((rd_T81 l0 x3_1).f0))).setCell ⟨gb185, 1, none⟩ (.string ((rd_T81 l0 x3_1).f1))).setCell ⟨gb185, 2, none⟩ (.slice A184_2 ((rd_T81 l0 x3_1).f2).length c184_2)).heap[gb185]? = some (.cells #[.string ((rd_T81 l0 x3_1).f0), .string ((rd_T81 l0 x3_1).f1), .slice A184_2 ((rd_T81 l0 x3_1).f2).length c184_2] 81 (0, 0))) := ⟨by (with_reducible repeat (first | refine blk_drewN ?_ _ | refine blk_drew ?_ | refine blk_alloc ?_ _)); refine blk_put (cs := #[.string ((rd_T81 l0 x3_1).f0), .string ((rd_T81 l0 x3_1).f1), .slice none 0 0]) ?_ 2 _ rfl; (with_reducible repeat (first | refine blk_drewN ?_ _ | refine blk_drew ?_ | refine blk_alloc ?_ _)); refine blk_put (cs := #[.string ((rd_T81 l0 x3_1).f0), .string (⟨#[]⟩ : ByteArray), .slice none 0 0]) ?_ 1 _ rfl; (with_reducible repeat (first | refine blk_drewN ?_ _ | refine blk_drew ?_ | refine blk_alloc ?_ _)); refine blk_put (cs := #[.string (⟨#[]⟩ : ByteArray), .string (⟨#[]⟩ : ByteArray), .slice none 0 0]) ?_ 0 _ rfl; (with_reducible repeat (first | refine blk_drewN ?_ _ | refine blk_drew ?_ | refine blk_alloc ?_ _)); exact BK185.out⟩
              have n1_ : Aside0 (Below w.heap.size w (((w6.setCell ⟨gb185, 0, none⟩ (.string ((rd_T81 l0 x3_1).f0))).setCell ⟨gb185, 1, none⟩ (.string ((rd_T81 l0 x3_1).f1))).setCell ⟨gb185, 2, none⟩ (.slice A184_2 ((rd_T81 l0 x3_1).f2).length c184_2))) := ⟨bl1 GE185⟩
              (try clear BK185)
              (try clear HB)
              generalize (((w6.setCell ⟨gb185, 0, none⟩ (.string ((rd_T81 l0 x3_1).f0))).setCell ⟨gb185, 1, none⟩ (.string ((rd_T81 l0 x3_1).f1))).setCell ⟨gb185, 2, none⟩ (.slice A184_2 ((rd_T81 l0 x3_1).f2).length c184_2)) = w25 at n0_ n1_ ⊢
              have BK185 := n0_
              have HB := n1_
              clear n0_ n1_
              replace BK185 := ak (blk_drew BK185.out)
              replace HB := ak (below_drew1 HB.out)
              refine start_ (n := 41) (S := fun w' => w'.cell? ⟨gb185, 0, none⟩ = some (.string ((rd_T81 l0 x3_1).f0)) ∧ w'.cell? ⟨gb185, 1, none⟩ = some (.string ((rd_T81 l0 x3_1).f1)) ∧ w'.cell? ⟨gb185, 2, none⟩ = some (.slice A184_2 ((rd_T81 l0 x3_1).f2).length c184_2)) (ds := []) (bitsA 41 0) (by kernel_rfl) rfl rfl ⟨bc BK185 0, bc BK185 1, bc BK185 2⟩ (fun hHeld => ?_); refine with_tabW spec_StoreOk.tab7 spec_StoreOk.bits7 (fun HT_ HW_ => ?_)
              generalize w25.drew = w26 at BK185 HB hHeld ⊢
              refine pu 0 (some 19) (bitsA 41 1) ?_
              refine tk 1 (some 20) (bitsA 41 3) hHeld ?_ (hy := Or.inl ⟨by rfl, by rintro w' ⟨s0, s1, s2⟩; go_simp; with_reducible rfl⟩)
              refine one_ (i := 2) (N := some 21) (bitsA 41 7) rfl rfl (one_of HT_.out (by kernel_rfl)) (by decide) (fun K hK => ?_)
              refine goes_ Try.func68 (by kernel_rfl) rfl #[.string ((rd_T81 l0 x3_1).f0)] (by rfl) rfl rfl mt ?_
              with_reducible refine (spec_NameOk.calls k1 ((rd_T81 l0 x3_1).f0) true _ A8.out).mono ?_
              rintro e w' ⟨rfl, ⟨nd, rfl⟩⟩
              refine ⟨_, rfl, ?_⟩
              refine hK.out _ _ ⟨bc BK185 0, bc BK185 1, bc BK185 2⟩ (fun hHeld => ?_)
              clear hK K
              refine nm ?_
              refine pu 3 (some 22) (bitsA 41 15) ?_
              refine pu 4 (some 23) (bitsA 41 31) ?_
              refine pu 5 (some 24) (bitsA 41 63) ?_
              refine tk 6 (some 25) (bitsA 41 127) hHeld ?_ (hy := Or.inl ⟨by rfl, by rintro w' ⟨s0, s1, s2⟩; go_simp; with_reducible rfl⟩)
              refine one_ (i := 7) (N := some 26) (bitsA 41 255) rfl rfl (one_of HT_.out (by kernel_rfl)) (by decide) (fun K hK => ?_)
              refine goes_ Try.func68 (by kernel_rfl) rfl #[.string ((rd_T81 l0 x3_1).f1)] (by rfl) rfl rfl mt ?_
              with_reducible refine (spec_NameOk.calls k1 ((rd_T81 l0 x3_1).f1) false _ A10.out).mono ?_
              rintro e w' ⟨rfl, ⟨nd, rfl⟩⟩
              refine ⟨_, rfl, ?_⟩
              refine hK.out _ _ ⟨bc BK185 0, bc BK185 1, bc BK185 2⟩ (fun hHeld => ?_)
              clear hK K
              refine nm ?_
              refine pu 8 (some 27) (bitsA 41 511) ?_
              refine pu 9 (some 28) (bitsA 41 1023) ?_
              refine pu 10 (some 29) (bitsA 41 2047) ?_
              refine pure_ (i := 11) (N := some 30) (v := undef) (a' := ?_) (bitsA 41 4095) rfl rfl (any_of HT_.out (by kernel_rfl)) (fun _ _ _ h => h) (Or.inr ⟨by rfl, rfl⟩) ?_ ?_; rotate_left; (· (simp only [Act.put, List.setIfInBounds_toArray, List.set_cons_zero, List.set_cons_succ, i64_w, i32_w]; rfl))
              refine pure_ (i := 12) (N := some 31) (v := undef) (a' := ?_) (bitsA 41 8191) rfl rfl (any_of HT_.out (by kernel_rfl)) (fun _ _ _ h => h) (Or.inr ⟨by rfl, rfl⟩) ?_ ?_; rotate_left; (· (simp only [Act.put, List.setIfInBounds_toArray, List.set_cons_zero, List.set_cons_succ, i64_w, i32_w]; rfl))
              refine pure_ (i := 13) (N := some 32) (v := undef) (a' := ?_) (bitsA 41 16383) rfl rfl (any_of HT_.out (by kernel_rfl)) (fun _ _ _ h => h) (Or.inr ⟨by rfl, rfl⟩) ?_ ?_; rotate_left; (· (simp only [Act.put, List.setIfInBounds_toArray, List.set_cons_zero, List.set_cons_succ, i64_w, i32_w]; rfl))
              refine pure_ (i := 14) (N := some 33) (v := undef) (a' := ?_) (bitsA 41 32767) rfl rfl (any_of HT_.out (by kernel_rfl)) (fun _ _ _ h => h) (Or.inr ⟨by rfl, rfl⟩) ?_ ?_; rotate_left; (· (simp only [Act.put, List.setIfInBounds_toArray, List.set_cons_zero, List.set_cons_succ, i64_w, i32_w]; rfl))
              refine pure_ (i := 15) (N := some 34) (v := undef) (a' := ?_) (bitsA 41 65535) rfl rfl (any_of HT_.out (by kernel_rfl)) (fun _ _ _ h => h) (Or.inr ⟨by rfl, rfl⟩) ?_ ?_; rotate_left; (· (simp only [Act.put, List.setIfInBounds_toArray, List.set_cons_zero, List.set_cons_succ, i64_w, i32_w]; rfl))
              refine pu 16 (some 35) (bitsA 41 131071) ?_
              refine pu 17 (some 36) (bitsA 41 262143) ?_
              refine pure_ (i := 18) (N := some 37) (v := undef) (a' := ?_) (bitsA 41 524287) rfl rfl (any_of HT_.out (by kernel_rfl)) (fun _ _ _ h => h) (Or.inr ⟨by rfl, rfl⟩) ?_ ?_; rotate_left; (· (simp only [Act.put, List.setIfInBounds_toArray, List.set_cons_zero, List.set_cons_succ, i64_w, i32_w]; rfl))
              refine pure_ (i := 19) (N := some 38) (v := undef) (a' := ?_) (bitsA 41 1048575) rfl rfl (any_of HT_.out (by kernel_rfl)) (fun _ _ _ h => h) (Or.inr ⟨by rfl, rfl⟩) ?_ ?_; rotate_left; (· (simp only [Act.put, List.setIfInBounds_toArray, List.set_cons_zero, List.set_cons_succ, i64_w, i32_w]; rfl))
              refine pure_ (i := 20) (N := some 39) (v := undef) (a' := ?_) (bitsA 41 2097151) rfl rfl (any_of HT_.out (by kernel_rfl)) (fun _ _ _ h => h) (Or.inr ⟨by rfl, rfl⟩) ?_ ?_; rotate_left; (· (simp only [Act.put, List.setIfInBounds_toArray, List.set_cons_zero, List.set_cons_succ, i64_w, i32_w]; rfl))
              refine pure_ (i := 21) (N := some 40) (v := undef) (a' := ?_) (bitsA 41 4194303) rfl rfl (any_of HT_.out (by kernel_rfl)) (fun _ _ _ h => h) (Or.inr ⟨by rfl, rfl⟩) ?_ ?_; rotate_left; (· (simp only [Act.put, List.setIfInBounds_toArray, List.set_cons_zero, List.set_cons_succ, i64_w, i32_w]; rfl))
              refine pure_ (i := 22) (N := some 41) (v := undef) (a' := ?_) (bitsA 41 8388607) rfl rfl (any_of HT_.out (by kernel_rfl)) (fun _ _ _ h => h) (Or.inr ⟨by rfl, rfl⟩) ?_ ?_; rotate_left; (· (simp only [Act.put, List.setIfInBounds_toArray, List.set_cons_zero, List.set_cons_succ, i64_w, i32_w]; rfl))
              refine pure_ (i := 23) (N := some 42) (v := undef) (a' := ?_) (bitsA 41 16777215) rfl rfl (any_of HT_.out (by kernel_rfl)) (fun _ _ _ h => h) (Or.inr ⟨by rfl, rfl⟩) ?_ ?_; rotate_left; (· (simp only [Act.put, List.setIfInBounds_toArray, List.set_cons_zero, List.set_cons_succ, i64_w, i32_w]; rfl))
              refine pure_ (i := 24) (N := some 43) (v := undef) (a' := ?_) (bitsA 41 33554431) rfl rfl (any_of HT_.out (by kernel_rfl)) (fun _ _ _ h => h) (Or.inr ⟨by rfl, rfl⟩) ?_ ?_; rotate_left; (· (simp only [Act.put, List.setIfInBounds_toArray, List.set_cons_zero, List.set_cons_succ, i64_w, i32_w]; rfl))
              refine pure_ (i := 25) (N := some 44) (v := undef) (a' := ?_) (bitsA 41 67108863) rfl rfl (any_of HT_.out (by kernel_rfl)) (fun _ _ _ h => h) (Or.inr ⟨by rfl, rfl⟩) ?_ ?_; rotate_left; (· (simp only [Act.put, List.setIfInBounds_toArray, List.set_cons_zero, List.set_cons_succ, i64_w, i32_w]; rfl))
              refine pure_ (i := 26) (N := some 45) (v := undef) (a' := ?_) (bitsA 41 134217727) rfl rfl (any_of HT_.out (by kernel_rfl)) (fun _ _ _ h => h) (Or.inr ⟨by rfl, rfl⟩) ?_ ?_; rotate_left; (· (simp only [Act.put, List.setIfInBounds_toArray, List.set_cons_zero, List.set_cons_succ, i64_w, i32_w]; rfl))
              refine pure_ (i := 27) (N := some 46) (v := undef) (a' := ?_) (bitsA 41 268435455) rfl rfl (any_of HT_.out (by kernel_rfl)) (fun _ _ _ h => h) (Or.inr ⟨by rfl, rfl⟩) ?_ ?_; rotate_left; (· (simp only [Act.put, List.setIfInBounds_toArray, List.set_cons_zero, List.set_cons_succ, i64_w, i32_w]; rfl))
              refine pure_ (i := 28) (N := some 47) (v := undef) (a' := ?_) (bitsA 41 536870911) rfl rfl (any_of HT_.out (by kernel_rfl)) (fun _ _ _ h => h) (Or.inr ⟨by rfl, rfl⟩) ?_ ?_; rotate_left; (· (simp only [Act.put, List.setIfInBounds_toArray, List.set_cons_zero, List.set_cons_succ, i64_w, i32_w]; rfl))
              refine pure_ (i := 29) (N := some 48) (v := undef) (a' := ?_) (bitsA 41 1073741823) rfl rfl (any_of HT_.out (by kernel_rfl)) (fun _ _ _ h => h) (Or.inr ⟨by rfl, rfl⟩) ?_ ?_; rotate_left; (· (simp only [Act.put, List.setIfInBounds_toArray, List.set_cons_zero, List.set_cons_succ, i64_w, i32_w]; rfl))
              refine pure_ (i := 30) (N := some 49) (v := undef) (a' := ?_) (bitsA 41 2147483647) rfl rfl (any_of HT_.out (by kernel_rfl)) (fun _ _ _ h => h) (Or.inr ⟨by rfl, rfl⟩) ?_ ?_; rotate_left; (· (simp only [Act.put, List.setIfInBounds_toArray, List.set_cons_zero, List.set_cons_succ, i64_w, i32_w]; rfl))
              refine pure_ (i := 31) (N := some 50) (v := undef) (a' := ?_) (bitsA 41 4294967295) rfl rfl (any_of HT_.out (by kernel_rfl)) (fun _ _ _ h => h) (Or.inr ⟨by rfl, rfl⟩) ?_ ?_; rotate_left; (· (simp only [Act.put, List.setIfInBounds_toArray, List.set_cons_zero, List.set_cons_succ, i64_w, i32_w]; rfl))
              refine pure_ (i := 32) (N := some 51) (v := undef) (a' := ?_) (bitsA 41 8589934591) rfl rfl (any_of HT_.out (by kernel_rfl)) (fun _ _ _ h => h) (Or.inr ⟨by rfl, rfl⟩) ?_ ?_; rotate_left; (· (simp only [Act.put, List.setIfInBounds_toArray, List.set_cons_zero, List.set_cons_succ, i64_w, i32_w]; rfl))
              refine pure_ (i := 33) (N := some 52) (v := undef) (a' := ?_) (bitsA 41 17179869183) rfl rfl (any_of HT_.out (by kernel_rfl)) (fun _ _ _ h => h) (Or.inr ⟨by rfl, rfl⟩) ?_ ?_; rotate_left; (· (simp only [Act.put, List.setIfInBounds_toArray, List.set_cons_zero, List.set_cons_succ, i64_w, i32_w]; rfl))
              refine pure_ (i := 34) (N := some 53) (v := undef) (a' := ?_) (bitsA 41 34359738367) rfl rfl (any_of HT_.out (by kernel_rfl)) (fun _ _ _ h => h) (Or.inr ⟨by rfl, rfl⟩) ?_ ?_; rotate_left; (· (simp only [Act.put, List.setIfInBounds_toArray, List.set_cons_zero, List.set_cons_succ, i64_w, i32_w]; rfl))
              refine pure_ (i := 35) (N := some 54) (v := undef) (a' := ?_) (bitsA 41 68719476735) rfl rfl (any_of HT_.out (by kernel_rfl)) (fun _ _ _ h => h) (Or.inr ⟨by rfl, rfl⟩) ?_ ?_; rotate_left; (· (simp only [Act.put, List.setIfInBounds_toArray, List.set_cons_zero, List.set_cons_succ, i64_w, i32_w]; rfl))
              refine pure_ (i := 36) (N := some 55) (v := undef) (a' := ?_) (bitsA 41 137438953471) rfl rfl (any_of HT_.out (by kernel_rfl)) (fun _ _ _ h => h) (Or.inr ⟨by rfl, rfl⟩) ?_ ?_; rotate_left; (· (simp only [Act.put, List.setIfInBounds_toArray, List.set_cons_zero, List.set_cons_succ, i64_w, i32_w]; rfl))
              refine pure_ (i := 37) (N := some 56) (v := undef) (a' := ?_) (bitsA 41 274877906943) rfl rfl (any_of HT_.out (by kernel_rfl)) (fun _ _ _ h => h) (Or.inr ⟨by rfl, rfl⟩) ?_ ?_; rotate_left; (· (simp only [Act.put, List.setIfInBounds_toArray, List.set_cons_zero, List.set_cons_succ, i64_w, i32_w]; rfl))
              refine pure_ (i := 38) (N := some 57) (v := undef) (a' := ?_) (bitsA 41 549755813887) rfl rfl (any_of HT_.out (by kernel_rfl)) (fun _ _ _ h => h) (Or.inr ⟨by rfl, rfl⟩) ?_ ?_; rotate_left; (· (simp only [Act.put, List.setIfInBounds_toArray, List.set_cons_zero, List.set_cons_succ, i64_w, i32_w]; rfl))
              refine pure_ (i := 39) (N := some 58) (v := undef) (a' := ?_) (bitsA 41 1099511627775) rfl rfl (any_of HT_.out (by kernel_rfl)) (fun _ _ _ h => h) (Or.inr ⟨by rfl, rfl⟩) ?_ ?_; rotate_left; (· (simp only [Act.put, List.setIfInBounds_toArray, List.set_cons_zero, List.set_cons_succ, i64_w, i32_w]; rfl))
              refine pu 40 (some 59) (bitsA 41 2199023255551) ?_
              refine done_ (done_of HT_.out (by kernel_rfl)) ?_
              try go_wp2
              go_meet
              case rel => exact ⟨_, (true), es, H', ⟨ko⟩, ⟨bk BK185⟩, ⟨bl1 GE185⟩⟩
          · replace c9 := Bool.eq_false_iff.mpr c9
            subst c9
            replace H := iF H
            have H' := Aside0.mk H
            clear H
            try go_wp2
            have n0_ : Aside0 ((((w6.setCell ⟨gb185, 0, none⟩ (.string ((rd_T81 l0 x3_1).f0))).setCell ⟨gb185, 1, none⟩ (.string ((rd_T81 l0 x3_1).f1))).setCell ⟨gb185, 2, none⟩ (.slice A184_2 ((rd_T81 l0 x3_1).f2).length c184_2)).heap[gb185]? = some (.cells #[.string ((rd_T81 l0 x3_1).f0), .string ((rd_T81 l0 x3_1).f1), .slice A184_2 ((rd_T81 l0 x3_1).f2).length c184_2] 81 (0, 0))) := ⟨by (with_reducible repeat (first | refine blk_drewN ?_ _ | refine blk_drew ?_ | refine blk_alloc ?_ _)); refine blk_put (cs := #[.string ((rd_T81 l0 x3_1).f0), .string ((rd_T81 l0 x3_1).f1), .slice none 0 0]) ?_ 2 _ rfl; (with_reducible repeat (first | refine blk_drewN ?_ _ | refine blk_drew ?_ | refine blk_alloc ?_ _)); refine blk_put (cs := #[.string ((rd_T81 l0 x3_1).f0), .string (⟨#[]⟩ : ByteArray), .slice none 0 0]) ?_ 1 _ rfl; (with_reducible repeat (first | refine blk_drewN ?_ _ | refine blk_drew ?_ | refine blk_alloc ?_ _)); refine blk_put (cs := #[.string (⟨#[]⟩ : ByteArray), .string (⟨#[]⟩ : ByteArray), .slice none 0 0]) ?_ 0 _ rfl; (with_reducible repeat (first | refine blk_drewN ?_ _ | refine blk_drew ?_ | refine blk_alloc ?_ _)); exact BK185.out⟩
            have n1_ : Aside0 (Below w.heap.size w (((w6.setCell ⟨gb185, 0, none⟩ (.string ((rd_T81 l0 x3_1).f0))).setCell ⟨gb185, 1, none⟩ (.string ((rd_T81 l0 x3_1).f1))).setCell ⟨gb185, 2, none⟩ (.slice A184_2 ((rd_T81 l0 x3_1).f2).length c184_2))) := ⟨bl1 GE185⟩
            (try clear BK185)
            (try clear HB)
            generalize (((w6.setCell ⟨gb185, 0, none⟩ (.string ((rd_T81 l0 x3_1).f0))).setCell ⟨gb185, 1, none⟩ (.string ((rd_T81 l0 x3_1).f1))).setCell ⟨gb185, 2, none⟩ (.slice A184_2 ((rd_T81 l0 x3_1).f2).length c184_2)) = w27 at n0_ n1_ ⊢
            have BK185 := n0_
            have HB := n1_
            clear n0_ n1_
            replace BK185 := ak (blk_drew BK185.out)
            replace HB := ak (below_drew1 HB.out)
            refine start_ (n := 41) (S := fun w' => w'.cell? ⟨gb185, 0, none⟩ = some (.string ((rd_T81 l0 x3_1).f0)) ∧ w'.cell? ⟨gb185, 1, none⟩ = some (.string ((rd_T81 l0 x3_1).f1)) ∧ w'.cell? ⟨gb185, 2, none⟩ = some (.slice A184_2 ((rd_T81 l0 x3_1).f2).length c184_2)) (ds := []) (bitsA 41 0) (by kernel_rfl) rfl rfl ⟨bc BK185 0, bc BK185 1, bc BK185 2⟩ (fun hHeld => ?_); refine with_tabW spec_StoreOk.tab7 spec_StoreOk.bits7 (fun HT_ HW_ => ?_)
            generalize w27.drew = w28 at BK185 HB hHeld ⊢
            refine pu 0 (some 19) (bitsA 41 1) ?_
            refine tk 1 (some 20) (bitsA 41 3) hHeld ?_ (hy := Or.inl ⟨by rfl, by rintro w' ⟨s0, s1, s2⟩; go_simp; with_reducible rfl⟩)
            refine one_ (i := 2) (N := some 21) (bitsA 41 7) rfl rfl (one_of HT_.out (by kernel_rfl)) (by decide) (fun K hK => ?_)
            refine goes_ Try.func68 (by kernel_rfl) rfl #[.string ((rd_T81 l0 x3_1).f0)] (by rfl) rfl rfl mt ?_
            with_reducible refine (spec_NameOk.calls k1 ((rd_T81 l0 x3_1).f0) false _ A8.out).mono ?_
            rintro e w' ⟨rfl, ⟨nd, rfl⟩⟩
            refine ⟨_, rfl, ?_⟩
            refine hK.out _ _ ⟨bc BK185 0, bc BK185 1, bc BK185 2⟩ (fun hHeld => ?_)
            clear hK K
            refine nm ?_
            refine pu 3 (some 22) (bitsA 41 15) ?_
            refine pu 4 (some 23) (bitsA 41 31) ?_
            refine pure_ (i := 5) (N := some 24) (v := undef) (a' := ?_) (bitsA 41 63) rfl rfl (any_of HT_.out (by kernel_rfl)) (fun _ _ _ h => h) (Or.inr ⟨by rfl, rfl⟩) ?_ ?_; rotate_left; (· (simp only [Act.put, List.setIfInBounds_toArray, List.set_cons_zero, List.set_cons_succ, i64_w, i32_w]; rfl))
            refine pure_ (i := 6) (N := some 25) (v := undef) (a' := ?_) (bitsA 41 127) rfl rfl (any_of HT_.out (by kernel_rfl)) (fun _ _ _ h => h) (Or.inr ⟨by rfl, rfl⟩) ?_ ?_; rotate_left; (· (simp only [Act.put, List.setIfInBounds_toArray, List.set_cons_zero, List.set_cons_succ, i64_w, i32_w]; rfl))
            refine pure_ (i := 7) (N := some 26) (v := undef) (a' := ?_) (bitsA 41 255) rfl rfl (any_of HT_.out (by kernel_rfl)) (fun _ _ _ h => h) (Or.inr ⟨by rfl, rfl⟩) ?_ ?_; rotate_left; (· (simp only [Act.put, List.setIfInBounds_toArray, List.set_cons_zero, List.set_cons_succ, i64_w, i32_w]; rfl))
            refine pure_ (i := 8) (N := some 27) (v := undef) (a' := ?_) (bitsA 41 511) rfl rfl (any_of HT_.out (by kernel_rfl)) (fun _ _ _ h => h) (Or.inr ⟨by rfl, rfl⟩) ?_ ?_; rotate_left; (· (simp only [Act.put, List.setIfInBounds_toArray, List.set_cons_zero, List.set_cons_succ, i64_w, i32_w]; rfl))
            refine pu 9 (some 28) (bitsA 41 1023) ?_
            refine pu 10 (some 29) (bitsA 41 2047) ?_
            refine pure_ (i := 11) (N := some 30) (v := undef) (a' := ?_) (bitsA 41 4095) rfl rfl (any_of HT_.out (by kernel_rfl)) (fun _ _ _ h => h) (Or.inr ⟨by rfl, rfl⟩) ?_ ?_; rotate_left; (· (simp only [Act.put, List.setIfInBounds_toArray, List.set_cons_zero, List.set_cons_succ, i64_w, i32_w]; rfl))
            refine pure_ (i := 12) (N := some 31) (v := undef) (a' := ?_) (bitsA 41 8191) rfl rfl (any_of HT_.out (by kernel_rfl)) (fun _ _ _ h => h) (Or.inr ⟨by rfl, rfl⟩) ?_ ?_; rotate_left; (· (simp only [Act.put, List.setIfInBounds_toArray, List.set_cons_zero, List.set_cons_succ, i64_w, i32_w]; rfl))
            refine pure_ (i := 13) (N := some 32) (v := undef) (a' := ?_) (bitsA 41 16383) rfl rfl (any_of HT_.out (by kernel_rfl)) (fun _ _ _ h => h) (Or.inr ⟨by rfl, rfl⟩) ?_ ?_; rotate_left; (· (simp only [Act.put, List.setIfInBounds_toArray, List.set_cons_zero, List.set_cons_succ, i64_w, i32_w]; rfl))
            refine pure_ (i := 14) (N := some 33) (v := undef) (a' := ?_) (bitsA 41 32767) rfl rfl (any_of HT_.out (by kernel_rfl)) (fun _ _ _ h => h) (Or.inr ⟨by rfl, rfl⟩) ?_ ?_; rotate_left; (· (simp only [Act.put, List.setIfInBounds_toArray, List.set_cons_zero, List.set_cons_succ, i64_w, i32_w]; rfl))
            refine pure_ (i := 15) (N := some 34) (v := undef) (a' := ?_) (bitsA 41 65535) rfl rfl (any_of HT_.out (by kernel_rfl)) (fun _ _ _ h => h) (Or.inr ⟨by rfl, rfl⟩) ?_ ?_; rotate_left; (· (simp only [Act.put, List.setIfInBounds_toArray, List.set_cons_zero, List.set_cons_succ, i64_w, i32_w]; rfl))
            refine pu 16 (some 35) (bitsA 41 131071) ?_
            refine pu 17 (some 36) (bitsA 41 262143) ?_
            refine pure_ (i := 18) (N := some 37) (v := undef) (a' := ?_) (bitsA 41 524287) rfl rfl (any_of HT_.out (by kernel_rfl)) (fun _ _ _ h => h) (Or.inr ⟨by rfl, rfl⟩) ?_ ?_; rotate_left; (· (simp only [Act.put, List.setIfInBounds_toArray, List.set_cons_zero, List.set_cons_succ, i64_w, i32_w]; rfl))
            refine pure_ (i := 19) (N := some 38) (v := undef) (a' := ?_) (bitsA 41 1048575) rfl rfl (any_of HT_.out (by kernel_rfl)) (fun _ _ _ h => h) (Or.inr ⟨by rfl, rfl⟩) ?_ ?_; rotate_left; (· (simp only [Act.put, List.setIfInBounds_toArray, List.set_cons_zero, List.set_cons_succ, i64_w, i32_w]; rfl))
            refine pure_ (i := 20) (N := some 39) (v := undef) (a' := ?_) (bitsA 41 2097151) rfl rfl (any_of HT_.out (by kernel_rfl)) (fun _ _ _ h => h) (Or.inr ⟨by rfl, rfl⟩) ?_ ?_; rotate_left; (· (simp only [Act.put, List.setIfInBounds_toArray, List.set_cons_zero, List.set_cons_succ, i64_w, i32_w]; rfl))
            refine pure_ (i := 21) (N := some 40) (v := undef) (a' := ?_) (bitsA 41 4194303) rfl rfl (any_of HT_.out (by kernel_rfl)) (fun _ _ _ h => h) (Or.inr ⟨by rfl, rfl⟩) ?_ ?_; rotate_left; (· (simp only [Act.put, List.setIfInBounds_toArray, List.set_cons_zero, List.set_cons_succ, i64_w, i32_w]; rfl))
            refine pure_ (i := 22) (N := some 41) (v := undef) (a' := ?_) (bitsA 41 8388607) rfl rfl (any_of HT_.out (by kernel_rfl)) (fun _ _ _ h => h) (Or.inr ⟨by rfl, rfl⟩) ?_ ?_; rotate_left; (· (simp only [Act.put, List.setIfInBounds_toArray, List.set_cons_zero, List.set_cons_succ, i64_w, i32_w]; rfl))
            refine pure_ (i := 23) (N := some 42) (v := undef) (a' := ?_) (bitsA 41 16777215) rfl rfl (any_of HT_.out (by kernel_rfl)) (fun _ _ _ h => h) (Or.inr ⟨by rfl, rfl⟩) ?_ ?_; rotate_left; (· (simp only [Act.put, List.setIfInBounds_toArray, List.set_cons_zero, List.set_cons_succ, i64_w, i32_w]; rfl))
            refine pure_ (i := 24) (N := some 43) (v := undef) (a' := ?_) (bitsA 41 33554431) rfl rfl (any_of HT_.out (by kernel_rfl)) (fun _ _ _ h => h) (Or.inr ⟨by rfl, rfl⟩) ?_ ?_; rotate_left; (· (simp only [Act.put, List.setIfInBounds_toArray, List.set_cons_zero, List.set_cons_succ, i64_w, i32_w]; rfl))
            refine pure_ (i := 25) (N := some 44) (v := undef) (a' := ?_) (bitsA 41 67108863) rfl rfl (any_of HT_.out (by kernel_rfl)) (fun _ _ _ h => h) (Or.inr ⟨by rfl, rfl⟩) ?_ ?_; rotate_left; (· (simp only [Act.put, List.setIfInBounds_toArray, List.set_cons_zero, List.set_cons_succ, i64_w, i32_w]; rfl))
            refine pure_ (i := 26) (N := some 45) (v := undef) (a' := ?_) (bitsA 41 134217727) rfl rfl (any_of HT_.out (by kernel_rfl)) (fun _ _ _ h => h) (Or.inr ⟨by rfl, rfl⟩) ?_ ?_; rotate_left; (· (simp only [Act.put, List.setIfInBounds_toArray, List.set_cons_zero, List.set_cons_succ, i64_w, i32_w]; rfl))
            refine pure_ (i := 27) (N := some 46) (v := undef) (a' := ?_) (bitsA 41 268435455) rfl rfl (any_of HT_.out (by kernel_rfl)) (fun _ _ _ h => h) (Or.inr ⟨by rfl, rfl⟩) ?_ ?_; rotate_left; (· (simp only [Act.put, List.setIfInBounds_toArray, List.set_cons_zero, List.set_cons_succ, i64_w, i32_w]; rfl))
            refine pure_ (i := 28) (N := some 47) (v := undef) (a' := ?_) (bitsA 41 536870911) rfl rfl (any_of HT_.out (by kernel_rfl)) (fun _ _ _ h => h) (Or.inr ⟨by rfl, rfl⟩) ?_ ?_; rotate_left; (· (simp only [Act.put, List.setIfInBounds_toArray, List.set_cons_zero, List.set_cons_succ, i64_w, i32_w]; rfl))
            refine pure_ (i := 29) (N := some 48) (v := undef) (a' := ?_) (bitsA 41 1073741823) rfl rfl (any_of HT_.out (by kernel_rfl)) (fun _ _ _ h => h) (Or.inr ⟨by rfl, rfl⟩) ?_ ?_; rotate_left; (· (simp only [Act.put, List.setIfInBounds_toArray, List.set_cons_zero, List.set_cons_succ, i64_w, i32_w]; rfl))
            refine pure_ (i := 30) (N := some 49) (v := undef) (a' := ?_) (bitsA 41 2147483647) rfl rfl (any_of HT_.out (by kernel_rfl)) (fun _ _ _ h => h) (Or.inr ⟨by rfl, rfl⟩) ?_ ?_; rotate_left; (· (simp only [Act.put, List.setIfInBounds_toArray, List.set_cons_zero, List.set_cons_succ, i64_w, i32_w]; rfl))
            refine pure_ (i := 31) (N := some 50) (v := undef) (a' := ?_) (bitsA 41 4294967295) rfl rfl (any_of HT_.out (by kernel_rfl)) (fun _ _ _ h => h) (Or.inr ⟨by rfl, rfl⟩) ?_ ?_; rotate_left; (· (simp only [Act.put, List.setIfInBounds_toArray, List.set_cons_zero, List.set_cons_succ, i64_w, i32_w]; rfl))
            refine pure_ (i := 32) (N := some 51) (v := undef) (a' := ?_) (bitsA 41 8589934591) rfl rfl (any_of HT_.out (by kernel_rfl)) (fun _ _ _ h => h) (Or.inr ⟨by rfl, rfl⟩) ?_ ?_; rotate_left; (· (simp only [Act.put, List.setIfInBounds_toArray, List.set_cons_zero, List.set_cons_succ, i64_w, i32_w]; rfl))
            refine pure_ (i := 33) (N := some 52) (v := undef) (a' := ?_) (bitsA 41 17179869183) rfl rfl (any_of HT_.out (by kernel_rfl)) (fun _ _ _ h => h) (Or.inr ⟨by rfl, rfl⟩) ?_ ?_; rotate_left; (· (simp only [Act.put, List.setIfInBounds_toArray, List.set_cons_zero, List.set_cons_succ, i64_w, i32_w]; rfl))
            refine pure_ (i := 34) (N := some 53) (v := undef) (a' := ?_) (bitsA 41 34359738367) rfl rfl (any_of HT_.out (by kernel_rfl)) (fun _ _ _ h => h) (Or.inr ⟨by rfl, rfl⟩) ?_ ?_; rotate_left; (· (simp only [Act.put, List.setIfInBounds_toArray, List.set_cons_zero, List.set_cons_succ, i64_w, i32_w]; rfl))
            refine pure_ (i := 35) (N := some 54) (v := undef) (a' := ?_) (bitsA 41 68719476735) rfl rfl (any_of HT_.out (by kernel_rfl)) (fun _ _ _ h => h) (Or.inr ⟨by rfl, rfl⟩) ?_ ?_; rotate_left; (· (simp only [Act.put, List.setIfInBounds_toArray, List.set_cons_zero, List.set_cons_succ, i64_w, i32_w]; rfl))
            refine pure_ (i := 36) (N := some 55) (v := undef) (a' := ?_) (bitsA 41 137438953471) rfl rfl (any_of HT_.out (by kernel_rfl)) (fun _ _ _ h => h) (Or.inr ⟨by rfl, rfl⟩) ?_ ?_; rotate_left; (· (simp only [Act.put, List.setIfInBounds_toArray, List.set_cons_zero, List.set_cons_succ, i64_w, i32_w]; rfl))
            refine pure_ (i := 37) (N := some 56) (v := undef) (a' := ?_) (bitsA 41 274877906943) rfl rfl (any_of HT_.out (by kernel_rfl)) (fun _ _ _ h => h) (Or.inr ⟨by rfl, rfl⟩) ?_ ?_; rotate_left; (· (simp only [Act.put, List.setIfInBounds_toArray, List.set_cons_zero, List.set_cons_succ, i64_w, i32_w]; rfl))
            refine pure_ (i := 38) (N := some 57) (v := undef) (a' := ?_) (bitsA 41 549755813887) rfl rfl (any_of HT_.out (by kernel_rfl)) (fun _ _ _ h => h) (Or.inr ⟨by rfl, rfl⟩) ?_ ?_; rotate_left; (· (simp only [Act.put, List.setIfInBounds_toArray, List.set_cons_zero, List.set_cons_succ, i64_w, i32_w]; rfl))
            refine pure_ (i := 39) (N := some 58) (v := undef) (a' := ?_) (bitsA 41 1099511627775) rfl rfl (any_of HT_.out (by kernel_rfl)) (fun _ _ _ h => h) (Or.inr ⟨by rfl, rfl⟩) ?_ ?_; rotate_left; (· (simp only [Act.put, List.setIfInBounds_toArray, List.set_cons_zero, List.set_cons_succ, i64_w, i32_w]; rfl))
            refine pu 40 (some 59) (bitsA 41 2199023255551) ?_
            refine done_ (done_of HT_.out (by kernel_rfl)) ?_
            try go_wp2
            go_meet
            case rel => exact ⟨_, (true), es, H', ⟨ko⟩, ⟨bk BK185⟩, ⟨bl1 GE185⟩⟩
         case rest =>
          clear HC5
          try clear c1
          try clear p2
          try clear c6
          try clear c9
          try clear c11
          try clear c18
          obtain ⟨kq, x59_4, rfl, HA, HJ4, BK185, HB⟩ := hcut
          cases kq with
          | zero => exact absurd HA.out (by simp [spec_StoreOk.j1])
          | succ kj4 =>
           have H := HA.out
           clear HA
           simp only [spec_StoreOk.j1] at H
           by_cases c29 : x59_4 = true
           · subst c29
             replace H := iT H
             obtain rfl := Option.some.inj H
             go_wp2
             go_ret
             exact ⟨ew, bl1 GE185⟩
           · replace c29 := Bool.eq_false_iff.mpr c29
             subst c29
             replace H := iF H
             have H' := Aside0.mk H
             clear H
             go_wp2
             go_loopg [5] kj4 (fun kq v5 w' => ∃ (x5_3 : Int), v5 = .int .i64 x5_3 ∧ Aside0 (spec_StoreOk.l1 kq l0 x3_1 x5_3 ((rd_T81 l0 x3_1).f0) ((rd_T81 l0 x3_1).f1) ((rd_T81 l0 x3_1).f2) = some r) ∧ Aside0 (kq ≤ kj4) ∧ Aside0 (w'.heap[gb185]? = some (.cells #[.string ((rd_T81 l0 x3_1).f0), .string ((rd_T81 l0 x3_1).f1), (.slice A184_2 ((rd_T81 l0 x3_1).f2).length c184_2)] 81 (0, 0))) ∧ Aside0 (Below w.heap.size w w'))
             case atStart => exact ⟨(0), es, H', ⟨Nat.le_refl _⟩, ⟨bk BK185⟩, ⟨bl1 GE185⟩⟩
             case round =>
              clear H'
              try clear c1
              try clear c2
              try clear p2
              try clear c6
              try clear c9
              try clear c11
              try clear c18
              try clear c29
              try clear p2
              obtain ⟨x5_3, rfl, HA, HK3, BK185, HB⟩ := hrel
              cases gk with
              | zero => exact absurd HA.out (by simp [spec_StoreOk.l1])
              | succ k3 =>
               have H := HA.out
               clear HA
               simp only [spec_StoreOk.l1] at H
               by_cases c30 : x5_3 < (((rd_T81 l0 x3_1).f2).length : Int)
               · rw [if_pos c30] at H
                 have c30b0 : decide (x5_3 < (((rd_T81 l0 x3_1).f2).length : Int)) = true := decide_eq_true c30
                 clear c30
                 by_cases c31 : 0 ≤ x5_3
                 · rw [if_pos c31] at H
                   have c31b0 : decide (0 ≤ x5_3) = true := decide_eq_true c31
                   clear c31
                   obtain ⟨t193, A320, H⟩ := bo H
                   have A32 := Aside0.mk A320
                   clear A320
                   by_cases c33 : t193 = true
                   · subst c33
                     replace H := iT H
                     obtain ⟨t195, A340, H⟩ := bo H
                     have A34 := Aside0.mk A340
                     clear A340
                     by_cases c35 : t195 = true
                     · subst c35
                       replace H := iT H
                       by_cases c36 : x5_3 > 0
                       · rw [if_pos c36] at H
                         have c36b0 : decide (0 < x5_3) = true := decide_eq_true c36
                         clear c36
                         obtain ⟨ji37, hji37⟩ : ∃ j_ : Int, (wrap64 (x5_3 - 1)) = j_ := ⟨_, rfl⟩
                         replace H : (if 0 ≤ (ji37) then (if (ji37) < (((rd_T81 l0 x3_1).f2).length : Int) then (if ((rd_T37 ((rd_T81 l0 x3_1).f2) (ji37)).f0) ≥ ((rd_T37 ((rd_T81 l0 x3_1).f2) x5_3).f0) then (some false) else (spec_StoreOk.l1 k3 l0 x3_1 (wrap64 (x5_3 + 1)) ((rd_T81 l0 x3_1).f0) ((rd_T81 l0 x3_1).f1) ((rd_T81 l0 x3_1).f2))) else (none)) else (none)) = some r := by first | (rw [hji37] at H; exact H) | (simp only [hji37] at H ⊢; exact H)
                         (try rw [hji37] at A32)
                         (try rw [hji37] at A34)
                         have hji37w : (IntKind.i64.wrap (x5_3 - 1)) = ji37 := (i64_w _).trans hji37
                         by_cases c38 : 0 ≤ (ji37)
                         · rw [if_pos c38] at H
                           have c38b0 : decide (0 ≤ (ji37)) = true := decide_eq_true c38
                           clear c38
                           by_cases c39 : (ji37) < (((rd_T81 l0 x3_1).f2).length : Int)
                           · rw [if_pos c39] at H
                             have c39b0 : decide ((ji37) < (((rd_T81 l0 x3_1).f2).length : Int)) = true := decide_eq_true c39
                             clear c39
                             by_cases c40 : ((rd_T37 ((rd_T81 l0 x3_1).f2) (ji37)).f0) ≥ ((rd_T37 ((rd_T81 l0 x3_1).f2) x5_3).f0)
                             · rw [if_pos c40] at H
                               have c40b0 : decide (((rd_T37 ((rd_T81 l0 x3_1).f2) x5_3).f0) ≤ ((rd_T37 ((rd_T81 l0 x3_1).f2) (ji37)).f0)) = true := decide_eq_true c40
                               clear c40
                               obtain rfl := Option.some.inj H
                               obtain ⟨hcz41_0, hcz41_1, hcz41_2, hfz41_0, hfz41_1, hfz41_2⟩ := cz3 BK185
                               try go_wp2
                               replace BK185 := ak (blk_drew BK185.out)
                               replace HB := ak (below_drew1 HB.out)
                               have p192 : 0 ≤ (x5_3 : Int) := of_decide_eq_true am
                               have q192 : x5_3 < (((rd_T81 l0 x3_1).f2).length : Int) := of_decide_eq_true am
                               obtain ⟨ad192, e192, hx192_0, hx192_1⟩ := at_T37 HR184_2.out x5_3 p192 q192
                               have hw192_1 := hx192_1
                               have hw192_0 := hx192_0
                               cases e192
                               replace hx192_0 := cw hx192_0
                               replace hx192_1 := cw hx192_1
                               replace p192 := eq_true p192
                               replace q192 := eq_true q192
                               have p194 : 0 ≤ (x5_3 : Int) := of_decide_eq_true am
                               have q194 : x5_3 < (((rd_T81 l0 x3_1).f2).length : Int) := of_decide_eq_true am
                               obtain ⟨ad194, e194, hx194_0, hx194_1⟩ := at_T37 HR184_2.out x5_3 p194 q194
                               have hw194_1 := hx194_1
                               have hw194_0 := hx194_0
                               obtain rfl : ad192 = ad194 := (by injection e194)
                               replace hx194_0 := cw hx194_0
                               replace hx194_1 := cw hx194_1
                               replace p194 := eq_true p194
                               replace q194 := eq_true q194
                               have p196 : 0 ≤ ((ji37) : Int) := of_decide_eq_true am
                               have q196 : (ji37) < (((rd_T81 l0 x3_1).f2).length : Int) := of_decide_eq_true am
                               obtain ⟨ad196, e196, hx196_0, hx196_1⟩ := at_T37 HR184_2.out (ji37) p196 q196
                               have hw196_1 := hx196_1
                               have hw196_0 := hx196_0
                               obtain rfl : ad192 = ad196 := (by injection e196)
                               replace hx196_0 := cw hx196_0
                               replace hx196_1 := cw hx196_1
                               replace p196 := eq_true p196
                               replace q196 := eq_true q196
                               have p197 : 0 ≤ (x5_3 : Int) := of_decide_eq_true am
                               have q197 : x5_3 < (((rd_T81 l0 x3_1).f2).length : Int) := of_decide_eq_true am
                               obtain ⟨ad197, e197, hx197_0, hx197_1⟩ := at_T37 HR184_2.out x5_3 p197 q197
                               have hw197_1 := hx197_1
                               have hw197_0 := hx197_0
                               obtain rfl : ad192 = ad197 := (by injection e197)
                               replace hx197_0 := cw hx197_0
                               replace hx197_1 := cw hx197_1
                               replace p197 := eq_true p197
                               replace q197 := eq_true q197
                               refine start_ (n := 38) (S := fun w' => w'.cell? ⟨gb185, 0, none⟩ = some (.string ((rd_T81 l0 x3_1).f0)) ∧ w'.cell? ⟨gb185, 1, none⟩ = some (.string ((rd_T81 l0 x3_1).f1)) ∧ w'.cell? ⟨gb185, 2, none⟩ = some (.slice (some ad192) ((rd_T81 l0 x3_1).f2).length c184_2) ∧ w'.cell? (ad192.add ((x5_3).toNat * 2)) = some (.int .i64 ((rd_T37 ((rd_T81 l0 x3_1).f2) x5_3).f0)) ∧ w'.cell? ⟨(ad192.add ((x5_3).toNat * 2)).block, (ad192.add ((x5_3).toNat * 2)).off + 1, none⟩ = some (.int .i64 ((rd_T37 ((rd_T81 l0 x3_1).f2) x5_3).f1)) ∧ w'.cell? (ad192.add ((x5_3).toNat * 2)) = some (.int .i64 ((rd_T37 ((rd_T81 l0 x3_1).f2) x5_3).f0)) ∧ w'.cell? ⟨(ad192.add ((x5_3).toNat * 2)).block, (ad192.add ((x5_3).toNat * 2)).off + 1, none⟩ = some (.int .i64 ((rd_T37 ((rd_T81 l0 x3_1).f2) x5_3).f1)) ∧ w'.cell? (ad192.add (((ji37)).toNat * 2)) = some (.int .i64 ((rd_T37 ((rd_T81 l0 x3_1).f2) (ji37)).f0)) ∧ w'.cell? ⟨(ad192.add (((ji37)).toNat * 2)).block, (ad192.add (((ji37)).toNat * 2)).off + 1, none⟩ = some (.int .i64 ((rd_T37 ((rd_T81 l0 x3_1).f2) (ji37)).f1)) ∧ w'.cell? (ad192.add ((x5_3).toNat * 2)) = some (.int .i64 ((rd_T37 ((rd_T81 l0 x3_1).f2) x5_3).f0)) ∧ w'.cell? ⟨(ad192.add ((x5_3).toNat * 2)).block, (ad192.add ((x5_3).toNat * 2)).off + 1, none⟩ = some (.int .i64 ((rd_T37 ((rd_T81 l0 x3_1).f2) x5_3).f1))) (ds := []) (bitsA 38 0) (by kernel_rfl) rfl rfl ⟨bc BK185 0, bc BK185 1, bc BK185 2, (cw hw192_0), (cw hw192_1), (cw hw194_0), (cw hw194_1), (cw hw196_0), (cw hw196_1), (cw hw197_0), (cw hw197_1)⟩ (fun hHeld => ?_); refine with_tabW spec_StoreOk.tab12 spec_StoreOk.bits12 (fun HT_ HW_ => ?_)
                               generalize wr.drew = w42 at BK185 HB hx192_0 hx192_1 hx194_0 hx194_1 hx196_0 hx196_1 hx197_0 hx197_1 hHeld ⊢
                               refine pu 0 (some 67) (bitsA 38 1) ?_
                               refine tk 1 (some 68) (bitsA 38 3) hHeld ?_ (hy := Or.inl ⟨by rfl, by rintro w' ⟨s0, s1, s2, s3, s4, s5, s6, s7, s8, s9, s10⟩; go_simp; with_reducible rfl⟩)
                               refine pu 2 (some 69) (bitsA 38 7) ?_
                               refine pu 3 (some 70) (bitsA 38 15) ?_
                               refine pu 4 (some 71) (bitsA 38 31) ?_
                               refine tk 5 (some 72) (bitsA 38 63) hHeld ?_ (hy := Or.inl ⟨by rfl, by rintro w' ⟨s0, s1, s2, s3, s4, s5, s6, s7, s8, s9, s10⟩; go_simp; with_reducible rfl⟩)
                               refine one_ (i := 6) (N := some 73) (bitsA 38 127) rfl rfl (one_of HT_.out (by kernel_rfl)) (by decide) (fun K hK => ?_)
                               refine goes_ Try.func71 (by kernel_rfl) rfl #[.int .i64 ((rd_T37 ((rd_T81 l0 x3_1).f2) x5_3).f0)] (by rfl) rfl rfl mt ?_
                               with_reducible refine (spec_l02Tick.calls ((rd_T37 ((rd_T81 l0 x3_1).f2) x5_3).f0) true _ A32.out).mono ?_
                               rintro e w' ⟨rfl, ⟨nd, rfl⟩⟩
                               refine ⟨_, rfl, ?_⟩
                               refine hK.out _ _ ⟨bc BK185 0, bc BK185 1, bc BK185 2, (cw hw192_0), (cw hw192_1), (cw hw194_0), (cw hw194_1), (cw hw196_0), (cw hw196_1), (cw hw197_0), (cw hw197_1)⟩ (fun hHeld => ?_)
                               clear hK K
                               refine nm ?_
                               refine pu 7 (some 74) (bitsA 38 255) ?_
                               refine pu 8 (some 75) (bitsA 38 511) ?_
                               refine pu 9 (some 76) (bitsA 38 1023) ?_
                               refine tk 10 (some 77) (bitsA 38 2047) hHeld ?_ (hy := Or.inl ⟨by rfl, by rintro w' ⟨s0, s1, s2, s3, s4, s5, s6, s7, s8, s9, s10⟩; go_simp; with_reducible rfl⟩)
                               refine pu 11 (some 78) (bitsA 38 4095) ?_
                               refine pu 12 (some 79) (bitsA 38 8191) ?_
                               refine pu 13 (some 80) (bitsA 38 16383) ?_
                               refine tk 14 (some 81) (bitsA 38 32767) hHeld ?_ (hy := Or.inl ⟨by rfl, by rintro w' ⟨s0, s1, s2, s3, s4, s5, s6, s7, s8, s9, s10⟩; go_simp; with_reducible rfl⟩)
                               refine one_ (i := 15) (N := some 82) (bitsA 38 65535) rfl rfl (one_of HT_.out (by kernel_rfl)) (by decide) (fun K hK => ?_)
                               refine goes_ Try.func72 (by kernel_rfl) rfl #[.int .i64 ((rd_T37 ((rd_T81 l0 x3_1).f2) x5_3).f1)] (by rfl) rfl rfl mt ?_
                               with_reducible refine (spec_l01Amt.calls ((rd_T37 ((rd_T81 l0 x3_1).f2) x5_3).f1) true _ A34.out).mono ?_
                               rintro e w' ⟨rfl, ⟨nd, rfl⟩⟩
                               refine ⟨_, rfl, ?_⟩
                               refine hK.out _ _ ⟨bc BK185 0, bc BK185 1, bc BK185 2, (cw hw192_0), (cw hw192_1), (cw hw194_0), (cw hw194_1), (cw hw196_0), (cw hw196_1), (cw hw197_0), (cw hw197_1)⟩ (fun hHeld => ?_)
                               clear hK K
                               refine nm ?_
                               refine pu 16 (some 83) (bitsA 38 131071) ?_
                               refine pu 17 (some 84) (bitsA 38 262143) ?_
                               refine pu 18 (some 85) (bitsA 38 524287) ?_
                               refine pu 19 (some 86) (bitsA 38 1048575) ?_
                               refine pu 20 (some 87) (bitsA 38 2097151) ?_
                               refine pu 21 (some 88) (bitsA 38 4194303) ?_
                               refine pu 22 (some 89) (bitsA 38 8388607) ?_
                               refine tk 23 (some 90) (bitsA 38 16777215) hHeld ?_ (hy := Or.inl ⟨by rfl, by rintro w' ⟨s0, s1, s2, s3, s4, s5, s6, s7, s8, s9, s10⟩; go_simp; with_reducible rfl⟩)
                               refine pu 24 (some 91) (bitsA 38 33554431) ?_
                               refine pu 25 (some 92) (bitsA 38 67108863) ?_
                               refine pu 26 (some 93) (bitsA 38 134217727) ?_
                               refine pu 27 (some 94) (bitsA 38 268435455) ?_
                               refine tk 28 (some 95) (bitsA 38 536870911) hHeld ?_ (hy := Or.inl ⟨by rfl, by rintro w' ⟨s0, s1, s2, s3, s4, s5, s6, s7, s8, s9, s10⟩; go_simp; with_reducible rfl⟩)
                               refine pu 29 (some 96) (bitsA 38 1073741823) ?_
                               refine tk 30 (some 97) (bitsA 38 2147483647) hHeld ?_ (hy := Or.inl ⟨by rfl, by rintro w' ⟨s0, s1, s2, s3, s4, s5, s6, s7, s8, s9, s10⟩; go_simp; with_reducible rfl⟩)
                               refine pu 31 (some 98) (bitsA 38 4294967295) ?_
                               refine pu 32 (some 99) (bitsA 38 8589934591) ?_
                               refine pu 33 (some 100) (bitsA 38 17179869183) ?_
                               refine tk 34 (some 101) (bitsA 38 34359738367) hHeld ?_ (hy := Or.inl ⟨by rfl, by rintro w' ⟨s0, s1, s2, s3, s4, s5, s6, s7, s8, s9, s10⟩; go_simp; with_reducible rfl⟩)
                               refine pu 35 (some 102) (bitsA 38 68719476735) ?_
                               refine pu 36 (some 103) (bitsA 38 137438953471) ?_
                               refine pu 37 (some 104) (bitsA 38 274877906943) ?_
                               refine done_ (done_of HT_.out (by kernel_rfl)) ?_
                               try go_wp2
                               go_ret
                               exact ⟨by first | rfl | (simp [errW_none, errW_some] <;> rfl) | (simp only [← hji37]; first | rfl | (simp [errW_none, errW_some] <;> rfl)) | (simp [*, errW_none, errW_some] <;> rfl), bl1 GE185⟩
                             · rw [if_neg c40] at H
                               have c40b0 : decide (((rd_T37 ((rd_T81 l0 x3_1).f2) x5_3).f0) ≤ ((rd_T37 ((rd_T81 l0 x3_1).f2) (ji37)).f0)) = false := decide_eq_false c40
                               clear c40
                               have H' := Aside0.mk H
                               clear H
                               obtain ⟨hcz43_0, hcz43_1, hcz43_2, hfz43_0, hfz43_1, hfz43_2⟩ := cz3 BK185
                               try go_wp2
                               replace BK185 := ak (blk_drew BK185.out)
                               replace HB := ak (below_drew1 HB.out)
                               have p192 : 0 ≤ (x5_3 : Int) := of_decide_eq_true am
                               have q192 : x5_3 < (((rd_T81 l0 x3_1).f2).length : Int) := of_decide_eq_true am
                               obtain ⟨ad192, e192, hx192_0, hx192_1⟩ := at_T37 HR184_2.out x5_3 p192 q192
                               have hw192_1 := hx192_1
                               have hw192_0 := hx192_0
                               cases e192
                               replace hx192_0 := cw hx192_0
                               replace hx192_1 := cw hx192_1
                               replace p192 := eq_true p192
                               replace q192 := eq_true q192
                               have p194 : 0 ≤ (x5_3 : Int) := of_decide_eq_true am
                               have q194 : x5_3 < (((rd_T81 l0 x3_1).f2).length : Int) := of_decide_eq_true am
                               obtain ⟨ad194, e194, hx194_0, hx194_1⟩ := at_T37 HR184_2.out x5_3 p194 q194
                               have hw194_1 := hx194_1
                               have hw194_0 := hx194_0
                               obtain rfl : ad192 = ad194 := (by injection e194)
                               replace hx194_0 := cw hx194_0
                               replace hx194_1 := cw hx194_1
                               replace p194 := eq_true p194
                               replace q194 := eq_true q194
                               have p196 : 0 ≤ ((ji37) : Int) := of_decide_eq_true am
                               have q196 : (ji37) < (((rd_T81 l0 x3_1).f2).length : Int) := of_decide_eq_true am
                               obtain ⟨ad196, e196, hx196_0, hx196_1⟩ := at_T37 HR184_2.out (ji37) p196 q196
                               have hw196_1 := hx196_1
                               have hw196_0 := hx196_0
                               obtain rfl : ad192 = ad196 := (by injection e196)
                               replace hx196_0 := cw hx196_0
                               replace hx196_1 := cw hx196_1
                               replace p196 := eq_true p196
                               replace q196 := eq_true q196
                               have p197 : 0 ≤ (x5_3 : Int) := of_decide_eq_true am
                               have q197 : x5_3 < (((rd_T81 l0 x3_1).f2).length : Int) := of_decide_eq_true am
                               obtain ⟨ad197, e197, hx197_0, hx197_1⟩ := at_T37 HR184_2.out x5_3 p197 q197
                               have hw197_1 := hx197_1
                               have hw197_0 := hx197_0
                               obtain rfl : ad192 = ad197 := (by injection e197)
                               replace hx197_0 := cw hx197_0
                               replace hx197_1 := cw hx197_1
                               replace p197 := eq_true p197
                               replace q197 := eq_true q197
                               refine start_ (n := 38) (S := fun w' => w'.cell? ⟨gb185, 0, none⟩ = some (.string ((rd_T81 l0 x3_1).f0)) ∧ w'.cell? ⟨gb185, 1, none⟩ = some (.string ((rd_T81 l0 x3_1).f1)) ∧ w'.cell? ⟨gb185, 2, none⟩ = some (.slice (some ad192) ((rd_T81 l0 x3_1).f2).length c184_2) ∧ w'.cell? (ad192.add ((x5_3).toNat * 2)) = some (.int .i64 ((rd_T37 ((rd_T81 l0 x3_1).f2) x5_3).f0)) ∧ w'.cell? ⟨(ad192.add ((x5_3).toNat * 2)).block, (ad192.add ((x5_3).toNat * 2)).off + 1, none⟩ = some (.int .i64 ((rd_T37 ((rd_T81 l0 x3_1).f2) x5_3).f1)) ∧ w'.cell? (ad192.add ((x5_3).toNat * 2)) = some (.int .i64 ((rd_T37 ((rd_T81 l0 x3_1).f2) x5_3).f0)) ∧ w'.cell? ⟨(ad192.add ((x5_3).toNat * 2)).block, (ad192.add ((x5_3).toNat * 2)).off + 1, none⟩ = some (.int .i64 ((rd_T37 ((rd_T81 l0 x3_1).f2) x5_3).f1)) ∧ w'.cell? (ad192.add (((ji37)).toNat * 2)) = some (.int .i64 ((rd_T37 ((rd_T81 l0 x3_1).f2) (ji37)).f0)) ∧ w'.cell? ⟨(ad192.add (((ji37)).toNat * 2)).block, (ad192.add (((ji37)).toNat * 2)).off + 1, none⟩ = some (.int .i64 ((rd_T37 ((rd_T81 l0 x3_1).f2) (ji37)).f1)) ∧ w'.cell? (ad192.add ((x5_3).toNat * 2)) = some (.int .i64 ((rd_T37 ((rd_T81 l0 x3_1).f2) x5_3).f0)) ∧ w'.cell? ⟨(ad192.add ((x5_3).toNat * 2)).block, (ad192.add ((x5_3).toNat * 2)).off + 1, none⟩ = some (.int .i64 ((rd_T37 ((rd_T81 l0 x3_1).f2) x5_3).f1))) (ds := []) (bitsA 38 0) (by kernel_rfl) rfl rfl ⟨bc BK185 0, bc BK185 1, bc BK185 2, (cw hw192_0), (cw hw192_1), (cw hw194_0), (cw hw194_1), (cw hw196_0), (cw hw196_1), (cw hw197_0), (cw hw197_1)⟩ (fun hHeld => ?_); refine with_tabW spec_StoreOk.tab12 spec_StoreOk.bits12 (fun HT_ HW_ => ?_)
                               generalize wr.drew = w44 at BK185 HB hx192_0 hx192_1 hx194_0 hx194_1 hx196_0 hx196_1 hx197_0 hx197_1 hHeld ⊢
                               refine pu 0 (some 67) (bitsA 38 1) ?_
                               refine tk 1 (some 68) (bitsA 38 3) hHeld ?_ (hy := Or.inl ⟨by rfl, by rintro w' ⟨s0, s1, s2, s3, s4, s5, s6, s7, s8, s9, s10⟩; go_simp; with_reducible rfl⟩)
                               refine pu 2 (some 69) (bitsA 38 7) ?_
                               refine pu 3 (some 70) (bitsA 38 15) ?_
                               refine pu 4 (some 71) (bitsA 38 31) ?_
                               refine tk 5 (some 72) (bitsA 38 63) hHeld ?_ (hy := Or.inl ⟨by rfl, by rintro w' ⟨s0, s1, s2, s3, s4, s5, s6, s7, s8, s9, s10⟩; go_simp; with_reducible rfl⟩)
                               refine one_ (i := 6) (N := some 73) (bitsA 38 127) rfl rfl (one_of HT_.out (by kernel_rfl)) (by decide) (fun K hK => ?_)
                               refine goes_ Try.func71 (by kernel_rfl) rfl #[.int .i64 ((rd_T37 ((rd_T81 l0 x3_1).f2) x5_3).f0)] (by rfl) rfl rfl mt ?_
                               with_reducible refine (spec_l02Tick.calls ((rd_T37 ((rd_T81 l0 x3_1).f2) x5_3).f0) true _ A32.out).mono ?_
                               rintro e w' ⟨rfl, ⟨nd, rfl⟩⟩
                               refine ⟨_, rfl, ?_⟩
                               refine hK.out _ _ ⟨bc BK185 0, bc BK185 1, bc BK185 2, (cw hw192_0), (cw hw192_1), (cw hw194_0), (cw hw194_1), (cw hw196_0), (cw hw196_1), (cw hw197_0), (cw hw197_1)⟩ (fun hHeld => ?_)
                               clear hK K
                               refine nm ?_
                               refine pu 7 (some 74) (bitsA 38 255) ?_
                               refine pu 8 (some 75) (bitsA 38 511) ?_
                               refine pu 9 (some 76) (bitsA 38 1023) ?_
                               refine tk 10 (some 77) (bitsA 38 2047) hHeld ?_ (hy := Or.inl ⟨by rfl, by rintro w' ⟨s0, s1, s2, s3, s4, s5, s6, s7, s8, s9, s10⟩; go_simp; with_reducible rfl⟩)
                               refine pu 11 (some 78) (bitsA 38 4095) ?_
                               refine pu 12 (some 79) (bitsA 38 8191) ?_
                               refine pu 13 (some 80) (bitsA 38 16383) ?_
                               refine tk 14 (some 81) (bitsA 38 32767) hHeld ?_ (hy := Or.inl ⟨by rfl, by rintro w' ⟨s0, s1, s2, s3, s4, s5, s6, s7, s8, s9, s10⟩; go_simp; with_reducible rfl⟩)
                               refine one_ (i := 15) (N := some 82) (bitsA 38 65535) rfl rfl (one_of HT_.out (by kernel_rfl)) (by decide) (fun K hK => ?_)
                               refine goes_ Try.func72 (by kernel_rfl) rfl #[.int .i64 ((rd_T37 ((rd_T81 l0 x3_1).f2) x5_3).f1)] (by rfl) rfl rfl mt ?_
                               with_reducible refine (spec_l01Amt.calls ((rd_T37 ((rd_T81 l0 x3_1).f2) x5_3).f1) true _ A34.out).mono ?_
                               rintro e w' ⟨rfl, ⟨nd, rfl⟩⟩
                               refine ⟨_, rfl, ?_⟩
                               refine hK.out _ _ ⟨bc BK185 0, bc BK185 1, bc BK185 2, (cw hw192_0), (cw hw192_1), (cw hw194_0), (cw hw194_1), (cw hw196_0), (cw hw196_1), (cw hw197_0), (cw hw197_1)⟩ (fun hHeld => ?_)
                               clear hK K
                               refine nm ?_
                               refine pu 16 (some 83) (bitsA 38 131071) ?_
                               refine pu 17 (some 84) (bitsA 38 262143) ?_
                               refine pu 18 (some 85) (bitsA 38 524287) ?_
                               refine pu 19 (some 86) (bitsA 38 1048575) ?_
                               refine pu 20 (some 87) (bitsA 38 2097151) ?_
                               refine pu 21 (some 88) (bitsA 38 4194303) ?_
                               refine pu 22 (some 89) (bitsA 38 8388607) ?_
                               refine tk 23 (some 90) (bitsA 38 16777215) hHeld ?_ (hy := Or.inl ⟨by rfl, by rintro w' ⟨s0, s1, s2, s3, s4, s5, s6, s7, s8, s9, s10⟩; go_simp; with_reducible rfl⟩)
                               refine pu 24 (some 91) (bitsA 38 33554431) ?_
                               refine pu 25 (some 92) (bitsA 38 67108863) ?_
                               refine pu 26 (some 93) (bitsA 38 134217727) ?_
                               refine pu 27 (some 94) (bitsA 38 268435455) ?_
                               refine tk 28 (some 95) (bitsA 38 536870911) hHeld ?_ (hy := Or.inl ⟨by rfl, by rintro w' ⟨s0, s1, s2, s3, s4, s5, s6, s7, s8, s9, s10⟩; go_simp; with_reducible rfl⟩)
                               refine pu 29 (some 96) (bitsA 38 1073741823) ?_
                               refine tk 30 (some 97) (bitsA 38 2147483647) hHeld ?_ (hy := Or.inl ⟨by rfl, by rintro w' ⟨s0, s1, s2, s3, s4, s5, s6, s7, s8, s9, s10⟩; go_simp; with_reducible rfl⟩)
                               refine pu 31 (some 98) (bitsA 38 4294967295) ?_
                               refine pu 32 (some 99) (bitsA 38 8589934591) ?_
                               refine pu 33 (some 100) (bitsA 38 17179869183) ?_
                               refine tk 34 (some 101) (bitsA 38 34359738367) hHeld ?_ (hy := Or.inl ⟨by rfl, by rintro w' ⟨s0, s1, s2, s3, s4, s5, s6, s7, s8, s9, s10⟩; go_simp; with_reducible rfl⟩)
                               refine pu 35 (some 102) (bitsA 38 68719476735) ?_
                               refine pu 36 (some 103) (bitsA 38 137438953471) ?_
                               refine pu 37 (some 104) (bitsA 38 274877906943) ?_
                               refine done_ (done_of HT_.out (by kernel_rfl)) ?_
                               try go_wp2
                               go_roundg k3
                               case measure => have := HK1.out; have := HJ4.out; have := HK3.out; omega
                               case rel => exact ⟨(wrap64 (x5_3 + 1)), es, H', ⟨by have := HK1.out; have := HJ4.out; have := HK3.out; omega⟩, ⟨bk BK185⟩, ⟨bl1 GE185⟩⟩
                           · rw [if_neg c39] at H
                             exact absurd H (by simp)
                         · rw [if_neg c38] at H
                           exact absurd H (by simp)
                       · rw [if_neg c36] at H
                         have c36b0 : decide (0 < x5_3) = false := decide_eq_false c36
                         clear c36
                         have H' := Aside0.mk H
                         clear H
                         obtain ⟨hcz45_0, hcz45_1, hcz45_2, hfz45_0, hfz45_1, hfz45_2⟩ := cz3 BK185
                         try go_wp2
                         replace BK185 := ak (blk_drew BK185.out)
                         replace HB := ak (below_drew1 HB.out)
                         have p192 : 0 ≤ (x5_3 : Int) := of_decide_eq_true am
                         have q192 : x5_3 < (((rd_T81 l0 x3_1).f2).length : Int) := of_decide_eq_true am
                         obtain ⟨ad192, e192, hx192_0, hx192_1⟩ := at_T37 HR184_2.out x5_3 p192 q192
                         have hw192_1 := hx192_1
                         have hw192_0 := hx192_0
                         cases e192
                         replace hx192_0 := cw hx192_0
                         replace hx192_1 := cw hx192_1
                         replace p192 := eq_true p192
                         replace q192 := eq_true q192
                         have p194 : 0 ≤ (x5_3 : Int) := of_decide_eq_true am
                         have q194 : x5_3 < (((rd_T81 l0 x3_1).f2).length : Int) := of_decide_eq_true am
                         obtain ⟨ad194, e194, hx194_0, hx194_1⟩ := at_T37 HR184_2.out x5_3 p194 q194
                         have hw194_1 := hx194_1
                         have hw194_0 := hx194_0
                         obtain rfl : ad192 = ad194 := (by injection e194)
                         replace hx194_0 := cw hx194_0
                         replace hx194_1 := cw hx194_1
                         replace p194 := eq_true p194
                         replace q194 := eq_true q194
                         refine start_ (n := 38) (S := fun w' => w'.cell? ⟨gb185, 0, none⟩ = some (.string ((rd_T81 l0 x3_1).f0)) ∧ w'.cell? ⟨gb185, 1, none⟩ = some (.string ((rd_T81 l0 x3_1).f1)) ∧ w'.cell? ⟨gb185, 2, none⟩ = some (.slice (some ad192) ((rd_T81 l0 x3_1).f2).length c184_2) ∧ w'.cell? (ad192.add ((x5_3).toNat * 2)) = some (.int .i64 ((rd_T37 ((rd_T81 l0 x3_1).f2) x5_3).f0)) ∧ w'.cell? ⟨(ad192.add ((x5_3).toNat * 2)).block, (ad192.add ((x5_3).toNat * 2)).off + 1, none⟩ = some (.int .i64 ((rd_T37 ((rd_T81 l0 x3_1).f2) x5_3).f1)) ∧ w'.cell? (ad192.add ((x5_3).toNat * 2)) = some (.int .i64 ((rd_T37 ((rd_T81 l0 x3_1).f2) x5_3).f0)) ∧ w'.cell? ⟨(ad192.add ((x5_3).toNat * 2)).block, (ad192.add ((x5_3).toNat * 2)).off + 1, none⟩ = some (.int .i64 ((rd_T37 ((rd_T81 l0 x3_1).f2) x5_3).f1))) (ds := []) (bitsA 38 0) (by kernel_rfl) rfl rfl ⟨bc BK185 0, bc BK185 1, bc BK185 2, (cw hw192_0), (cw hw192_1), (cw hw194_0), (cw hw194_1)⟩ (fun hHeld => ?_); refine with_tabW spec_StoreOk.tab12 spec_StoreOk.bits12 (fun HT_ HW_ => ?_)
                         generalize wr.drew = w46 at BK185 HB hx192_0 hx192_1 hx194_0 hx194_1 hHeld ⊢
                         refine pu 0 (some 67) (bitsA 38 1) ?_
                         refine tk 1 (some 68) (bitsA 38 3) hHeld ?_ (hy := Or.inl ⟨by rfl, by rintro w' ⟨s0, s1, s2, s3, s4, s5, s6⟩; go_simp; with_reducible rfl⟩)
                         refine pu 2 (some 69) (bitsA 38 7) ?_
                         refine pu 3 (some 70) (bitsA 38 15) ?_
                         refine pu 4 (some 71) (bitsA 38 31) ?_
                         refine tk 5 (some 72) (bitsA 38 63) hHeld ?_ (hy := Or.inl ⟨by rfl, by rintro w' ⟨s0, s1, s2, s3, s4, s5, s6⟩; go_simp; with_reducible rfl⟩)
                         refine one_ (i := 6) (N := some 73) (bitsA 38 127) rfl rfl (one_of HT_.out (by kernel_rfl)) (by decide) (fun K hK => ?_)
                         refine goes_ Try.func71 (by kernel_rfl) rfl #[.int .i64 ((rd_T37 ((rd_T81 l0 x3_1).f2) x5_3).f0)] (by rfl) rfl rfl mt ?_
                         with_reducible refine (spec_l02Tick.calls ((rd_T37 ((rd_T81 l0 x3_1).f2) x5_3).f0) true _ A32.out).mono ?_
                         rintro e w' ⟨rfl, ⟨nd, rfl⟩⟩
                         refine ⟨_, rfl, ?_⟩
                         refine hK.out _ _ ⟨bc BK185 0, bc BK185 1, bc BK185 2, (cw hw192_0), (cw hw192_1), (cw hw194_0), (cw hw194_1)⟩ (fun hHeld => ?_)
                         clear hK K
                         refine nm ?_
                         refine pu 7 (some 74) (bitsA 38 255) ?_
                         refine pu 8 (some 75) (bitsA 38 511) ?_
                         refine pu 9 (some 76) (bitsA 38 1023) ?_
                         refine tk 10 (some 77) (bitsA 38 2047) hHeld ?_ (hy := Or.inl ⟨by rfl, by rintro w' ⟨s0, s1, s2, s3, s4, s5, s6⟩; go_simp; with_reducible rfl⟩)
                         refine pu 11 (some 78) (bitsA 38 4095) ?_
                         refine pu 12 (some 79) (bitsA 38 8191) ?_
                         refine pu 13 (some 80) (bitsA 38 16383) ?_
                         refine tk 14 (some 81) (bitsA 38 32767) hHeld ?_ (hy := Or.inl ⟨by rfl, by rintro w' ⟨s0, s1, s2, s3, s4, s5, s6⟩; go_simp; with_reducible rfl⟩)
                         refine one_ (i := 15) (N := some 82) (bitsA 38 65535) rfl rfl (one_of HT_.out (by kernel_rfl)) (by decide) (fun K hK => ?_)
                         refine goes_ Try.func72 (by kernel_rfl) rfl #[.int .i64 ((rd_T37 ((rd_T81 l0 x3_1).f2) x5_3).f1)] (by rfl) rfl rfl mt ?_
                         with_reducible refine (spec_l01Amt.calls ((rd_T37 ((rd_T81 l0 x3_1).f2) x5_3).f1) true _ A34.out).mono ?_
                         rintro e w' ⟨rfl, ⟨nd, rfl⟩⟩
                         refine ⟨_, rfl, ?_⟩
                         refine hK.out _ _ ⟨bc BK185 0, bc BK185 1, bc BK185 2, (cw hw192_0), (cw hw192_1), (cw hw194_0), (cw hw194_1)⟩ (fun hHeld => ?_)
                         clear hK K
                         refine nm ?_
                         refine pu 16 (some 83) (bitsA 38 131071) ?_
                         refine pu 17 (some 84) (bitsA 38 262143) ?_
                         refine pu 18 (some 85) (bitsA 38 524287) ?_
                         refine pu 19 (some 86) (bitsA 38 1048575) ?_
                         refine pu 20 (some 87) (bitsA 38 2097151) ?_
                         refine pu 21 (some 88) (bitsA 38 4194303) ?_
                         refine pure_ (i := 22) (N := some 89) (v := undef) (a' := ?_) (bitsA 38 8388607) rfl rfl (any_of HT_.out (by kernel_rfl)) (fun _ _ _ h => h) (Or.inr ⟨by rfl, rfl⟩) ?_ ?_; rotate_left; (· (simp only [Act.put, List.setIfInBounds_toArray, List.set_cons_zero, List.set_cons_succ, i64_w, i32_w]; rfl))
                         refine pure_ (i := 23) (N := some 90) (v := undef) (a' := ?_) (bitsA 38 16777215) rfl rfl (any_of HT_.out (by kernel_rfl)) (fun _ _ _ h => h) (Or.inr ⟨by rfl, rfl⟩) ?_ ?_; rotate_left; (· (simp only [Act.put, List.setIfInBounds_toArray, List.set_cons_zero, List.set_cons_succ, i64_w, i32_w]; rfl))
                         refine pure_ (i := 24) (N := some 91) (v := undef) (a' := ?_) (bitsA 38 33554431) rfl rfl (any_of HT_.out (by kernel_rfl)) (fun _ _ _ h => h) (Or.inr ⟨by rfl, rfl⟩) ?_ ?_; rotate_left; (· (simp only [Act.put, List.setIfInBounds_toArray, List.set_cons_zero, List.set_cons_succ, i64_w, i32_w]; rfl))
                         refine pure_ (i := 25) (N := some 92) (v := undef) (a' := ?_) (bitsA 38 67108863) rfl rfl (any_of HT_.out (by kernel_rfl)) (fun _ _ _ h => h) (Or.inr ⟨by rfl, rfl⟩) ?_ ?_; rotate_left; (· (simp only [Act.put, List.setIfInBounds_toArray, List.set_cons_zero, List.set_cons_succ, i64_w, i32_w]; rfl))
                         refine pure_ (i := 26) (N := some 93) (v := undef) (a' := ?_) (bitsA 38 134217727) rfl rfl (any_of HT_.out (by kernel_rfl)) (fun _ _ _ h => h) (Or.inr ⟨by rfl, rfl⟩) ?_ ?_; rotate_left; (· (simp only [Act.put, List.setIfInBounds_toArray, List.set_cons_zero, List.set_cons_succ, i64_w, i32_w]; rfl))
                         refine pure_ (i := 27) (N := some 94) (v := undef) (a' := ?_) (bitsA 38 268435455) rfl rfl (any_of HT_.out (by kernel_rfl)) (fun _ _ _ h => h) (Or.inr ⟨by rfl, rfl⟩) ?_ ?_; rotate_left; (· (simp only [Act.put, List.setIfInBounds_toArray, List.set_cons_zero, List.set_cons_succ, i64_w, i32_w]; rfl))
                         refine pure_ (i := 28) (N := some 95) (v := undef) (a' := ?_) (bitsA 38 536870911) rfl rfl (any_of HT_.out (by kernel_rfl)) (fun _ _ _ h => h) (Or.inr ⟨by rfl, rfl⟩) ?_ ?_; rotate_left; (· (simp only [Act.put, List.setIfInBounds_toArray, List.set_cons_zero, List.set_cons_succ, i64_w, i32_w]; rfl))
                         refine pure_ (i := 29) (N := some 96) (v := undef) (a' := ?_) (bitsA 38 1073741823) rfl rfl (any_of HT_.out (by kernel_rfl)) (fun _ _ _ h => h) (Or.inr ⟨by rfl, rfl⟩) ?_ ?_; rotate_left; (· (simp only [Act.put, List.setIfInBounds_toArray, List.set_cons_zero, List.set_cons_succ, i64_w, i32_w]; rfl))
                         refine pure_ (i := 30) (N := some 97) (v := undef) (a' := ?_) (bitsA 38 2147483647) rfl rfl (any_of HT_.out (by kernel_rfl)) (fun _ _ _ h => h) (Or.inr ⟨by rfl, rfl⟩) ?_ ?_; rotate_left; (· (simp only [Act.put, List.setIfInBounds_toArray, List.set_cons_zero, List.set_cons_succ, i64_w, i32_w]; rfl))
                         refine pure_ (i := 31) (N := some 98) (v := undef) (a' := ?_) (bitsA 38 4294967295) rfl rfl (any_of HT_.out (by kernel_rfl)) (fun _ _ _ h => h) (Or.inr ⟨by rfl, rfl⟩) ?_ ?_; rotate_left; (· (simp only [Act.put, List.setIfInBounds_toArray, List.set_cons_zero, List.set_cons_succ, i64_w, i32_w]; rfl))
                         refine pure_ (i := 32) (N := some 99) (v := undef) (a' := ?_) (bitsA 38 8589934591) rfl rfl (any_of HT_.out (by kernel_rfl)) (fun _ _ _ h => h) (Or.inr ⟨by rfl, rfl⟩) ?_ ?_; rotate_left; (· (simp only [Act.put, List.setIfInBounds_toArray, List.set_cons_zero, List.set_cons_succ, i64_w, i32_w]; rfl))
                         refine pure_ (i := 33) (N := some 100) (v := undef) (a' := ?_) (bitsA 38 17179869183) rfl rfl (any_of HT_.out (by kernel_rfl)) (fun _ _ _ h => h) (Or.inr ⟨by rfl, rfl⟩) ?_ ?_; rotate_left; (· (simp only [Act.put, List.setIfInBounds_toArray, List.set_cons_zero, List.set_cons_succ, i64_w, i32_w]; rfl))
                         refine pure_ (i := 34) (N := some 101) (v := undef) (a' := ?_) (bitsA 38 34359738367) rfl rfl (any_of HT_.out (by kernel_rfl)) (fun _ _ _ h => h) (Or.inr ⟨by rfl, rfl⟩) ?_ ?_; rotate_left; (· (simp only [Act.put, List.setIfInBounds_toArray, List.set_cons_zero, List.set_cons_succ, i64_w, i32_w]; rfl))
                         refine pure_ (i := 35) (N := some 102) (v := undef) (a' := ?_) (bitsA 38 68719476735) rfl rfl (any_of HT_.out (by kernel_rfl)) (fun _ _ _ h => h) (Or.inr ⟨by rfl, rfl⟩) ?_ ?_; rotate_left; (· (simp only [Act.put, List.setIfInBounds_toArray, List.set_cons_zero, List.set_cons_succ, i64_w, i32_w]; rfl))
                         refine pu 36 (some 103) (bitsA 38 137438953471) ?_
                         refine pu 37 (some 104) (bitsA 38 274877906943) ?_
                         refine done_ (done_of HT_.out (by kernel_rfl)) ?_
                         try go_wp2
                         go_roundg k3
                         case measure => have := HK1.out; have := HJ4.out; have := HK3.out; omega
                         case rel => exact ⟨(wrap64 (x5_3 + 1)), es, H', ⟨by have := HK1.out; have := HJ4.out; have := HK3.out; omega⟩, ⟨bk BK185⟩, ⟨bl1 GE185⟩⟩
                     · replace c35 := Bool.eq_false_iff.mpr c35
                       subst c35
                       replace H := iF H
                       obtain rfl := Option.some.inj H
                       obtain ⟨hcz47_0, hcz47_1, hcz47_2, hfz47_0, hfz47_1, hfz47_2⟩ := cz3 BK185
                       try go_wp2
                       replace BK185 := ak (blk_drew BK185.out)
                       replace HB := ak (below_drew1 HB.out)
                       have p192 : 0 ≤ (x5_3 : Int) := of_decide_eq_true am
                       have q192 : x5_3 < (((rd_T81 l0 x3_1).f2).length : Int) := of_decide_eq_true am
                       obtain ⟨ad192, e192, hx192_0, hx192_1⟩ := at_T37 HR184_2.out x5_3 p192 q192
                       have hw192_1 := hx192_1
                       have hw192_0 := hx192_0
                       cases e192
                       replace hx192_0 := cw hx192_0
                       replace hx192_1 := cw hx192_1
                       replace p192 := eq_true p192
                       replace q192 := eq_true q192
                       have p194 : 0 ≤ (x5_3 : Int) := of_decide_eq_true am
                       have q194 : x5_3 < (((rd_T81 l0 x3_1).f2).length : Int) := of_decide_eq_true am
                       obtain ⟨ad194, e194, hx194_0, hx194_1⟩ := at_T37 HR184_2.out x5_3 p194 q194
                       have hw194_1 := hx194_1
                       have hw194_0 := hx194_0
                       obtain rfl : ad192 = ad194 := (by injection e194)
                       replace hx194_0 := cw hx194_0
                       replace hx194_1 := cw hx194_1
                       replace p194 := eq_true p194
                       replace q194 := eq_true q194
                       refine start_ (n := 38) (S := fun w' => w'.cell? ⟨gb185, 0, none⟩ = some (.string ((rd_T81 l0 x3_1).f0)) ∧ w'.cell? ⟨gb185, 1, none⟩ = some (.string ((rd_T81 l0 x3_1).f1)) ∧ w'.cell? ⟨gb185, 2, none⟩ = some (.slice (some ad192) ((rd_T81 l0 x3_1).f2).length c184_2) ∧ w'.cell? (ad192.add ((x5_3).toNat * 2)) = some (.int .i64 ((rd_T37 ((rd_T81 l0 x3_1).f2) x5_3).f0)) ∧ w'.cell? ⟨(ad192.add ((x5_3).toNat * 2)).block, (ad192.add ((x5_3).toNat * 2)).off + 1, none⟩ = some (.int .i64 ((rd_T37 ((rd_T81 l0 x3_1).f2) x5_3).f1)) ∧ w'.cell? (ad192.add ((x5_3).toNat * 2)) = some (.int .i64 ((rd_T37 ((rd_T81 l0 x3_1).f2) x5_3).f0)) ∧ w'.cell? ⟨(ad192.add ((x5_3).toNat * 2)).block, (ad192.add ((x5_3).toNat * 2)).off + 1, none⟩ = some (.int .i64 ((rd_T37 ((rd_T81 l0 x3_1).f2) x5_3).f1))) (ds := []) (bitsA 38 0) (by kernel_rfl) rfl rfl ⟨bc BK185 0, bc BK185 1, bc BK185 2, (cw hw192_0), (cw hw192_1), (cw hw194_0), (cw hw194_1)⟩ (fun hHeld => ?_); refine with_tabW spec_StoreOk.tab12 spec_StoreOk.bits12 (fun HT_ HW_ => ?_)
                       generalize wr.drew = w48 at BK185 HB hx192_0 hx192_1 hx194_0 hx194_1 hHeld ⊢
                       refine pu 0 (some 67) (bitsA 38 1) ?_
                       refine tk 1 (some 68) (bitsA 38 3) hHeld ?_ (hy := Or.inl ⟨by rfl, by rintro w' ⟨s0, s1, s2, s3, s4, s5, s6⟩; go_simp; with_reducible rfl⟩)
                       refine pu 2 (some 69) (bitsA 38 7) ?_
                       refine pu 3 (some 70) (bitsA 38 15) ?_
                       refine pu 4 (some 71) (bitsA 38 31) ?_
                       refine tk 5 (some 72) (bitsA 38 63) hHeld ?_ (hy := Or.inl ⟨by rfl, by rintro w' ⟨s0, s1, s2, s3, s4, s5, s6⟩; go_simp; with_reducible rfl⟩)
                       refine one_ (i := 6) (N := some 73) (bitsA 38 127) rfl rfl (one_of HT_.out (by kernel_rfl)) (by decide) (fun K hK => ?_)
                       refine goes_ Try.func71 (by kernel_rfl) rfl #[.int .i64 ((rd_T37 ((rd_T81 l0 x3_1).f2) x5_3).f0)] (by rfl) rfl rfl mt ?_
                       with_reducible refine (spec_l02Tick.calls ((rd_T37 ((rd_T81 l0 x3_1).f2) x5_3).f0) true _ A32.out).mono ?_
                       rintro e w' ⟨rfl, ⟨nd, rfl⟩⟩
                       refine ⟨_, rfl, ?_⟩
                       refine hK.out _ _ ⟨bc BK185 0, bc BK185 1, bc BK185 2, (cw hw192_0), (cw hw192_1), (cw hw194_0), (cw hw194_1)⟩ (fun hHeld => ?_)
                       clear hK K
                       refine nm ?_
                       refine pu 7 (some 74) (bitsA 38 255) ?_
                       refine pu 8 (some 75) (bitsA 38 511) ?_
                       refine pu 9 (some 76) (bitsA 38 1023) ?_
                       refine tk 10 (some 77) (bitsA 38 2047) hHeld ?_ (hy := Or.inl ⟨by rfl, by rintro w' ⟨s0, s1, s2, s3, s4, s5, s6⟩; go_simp; with_reducible rfl⟩)
                       refine pu 11 (some 78) (bitsA 38 4095) ?_
                       refine pu 12 (some 79) (bitsA 38 8191) ?_
                       refine pu 13 (some 80) (bitsA 38 16383) ?_
                       refine tk 14 (some 81) (bitsA 38 32767) hHeld ?_ (hy := Or.inl ⟨by rfl, by rintro w' ⟨s0, s1, s2, s3, s4, s5, s6⟩; go_simp; with_reducible rfl⟩)
                       refine one_ (i := 15) (N := some 82) (bitsA 38 65535) rfl rfl (one_of HT_.out (by kernel_rfl)) (by decide) (fun K hK => ?_)
                       refine goes_ Try.func72 (by kernel_rfl) rfl #[.int .i64 ((rd_T37 ((rd_T81 l0 x3_1).f2) x5_3).f1)] (by rfl) rfl rfl mt ?_
                       with_reducible refine (spec_l01Amt.calls ((rd_T37 ((rd_T81 l0 x3_1).f2) x5_3).f1) false _ A34.out).mono ?_
                       rintro e w' ⟨rfl, ⟨nd, rfl⟩⟩
                       refine ⟨_, rfl, ?_⟩
                       refine hK.out _ _ ⟨bc BK185 0, bc BK185 1, bc BK185 2, (cw hw192_0), (cw hw192_1), (cw hw194_0), (cw hw194_1)⟩ (fun hHeld => ?_)
                       clear hK K
                       refine nm ?_
                       refine pu 16 (some 83) (bitsA 38 131071) ?_
                       refine pu 17 (some 84) (bitsA 38 262143) ?_
                       refine pu 18 (some 85) (bitsA 38 524287) ?_
                       refine pure_ (i := 19) (N := some 86) (v := undef) (a' := ?_) (bitsA 38 1048575) rfl rfl (any_of HT_.out (by kernel_rfl)) (fun _ _ _ h => h) (Or.inr ⟨by rfl, rfl⟩) ?_ ?_; rotate_left; (· (simp only [Act.put, List.setIfInBounds_toArray, List.set_cons_zero, List.set_cons_succ, i64_w, i32_w]; rfl))
                       refine pure_ (i := 20) (N := some 87) (v := undef) (a' := ?_) (bitsA 38 2097151) rfl rfl (any_of HT_.out (by kernel_rfl)) (fun _ _ _ h => h) (Or.inr ⟨by rfl, rfl⟩) ?_ ?_; rotate_left; (· (simp only [Act.put, List.setIfInBounds_toArray, List.set_cons_zero, List.set_cons_succ, i64_w, i32_w]; rfl))
                       refine pure_ (i := 21) (N := some 88) (v := undef) (a' := ?_) (bitsA 38 4194303) rfl rfl (any_of HT_.out (by kernel_rfl)) (fun _ _ _ h => h) (Or.inr ⟨by rfl, rfl⟩) ?_ ?_; rotate_left; (· (simp only [Act.put, List.setIfInBounds_toArray, List.set_cons_zero, List.set_cons_succ, i64_w, i32_w]; rfl))
                       refine pure_ (i := 22) (N := some 89) (v := undef) (a' := ?_) (bitsA 38 8388607) rfl rfl (any_of HT_.out (by kernel_rfl)) (fun _ _ _ h => h) (Or.inr ⟨by rfl, rfl⟩) ?_ ?_; rotate_left; (· (simp only [Act.put, List.setIfInBounds_toArray, List.set_cons_zero, List.set_cons_succ, i64_w, i32_w]; rfl))
                       refine pure_ (i := 23) (N := some 90) (v := undef) (a' := ?_) (bitsA 38 16777215) rfl rfl (any_of HT_.out (by kernel_rfl)) (fun _ _ _ h => h) (Or.inr ⟨by rfl, rfl⟩) ?_ ?_; rotate_left; (· (simp only [Act.put, List.setIfInBounds_toArray, List.set_cons_zero, List.set_cons_succ, i64_w, i32_w]; rfl))
                       refine pure_ (i := 24) (N := some 91) (v := undef) (a' := ?_) (bitsA 38 33554431) rfl rfl (any_of HT_.out (by kernel_rfl)) (fun _ _ _ h => h) (Or.inr ⟨by rfl, rfl⟩) ?_ ?_; rotate_left; (· (simp only [Act.put, List.setIfInBounds_toArray, List.set_cons_zero, List.set_cons_succ, i64_w, i32_w]; rfl))
                       refine pure_ (i := 25) (N := some 92) (v := undef) (a' := ?_) (bitsA 38 67108863) rfl rfl (any_of HT_.out (by kernel_rfl)) (fun _ _ _ h => h) (Or.inr ⟨by rfl, rfl⟩) ?_ ?_; rotate_left; (· (simp only [Act.put, List.setIfInBounds_toArray, List.set_cons_zero, List.set_cons_succ, i64_w, i32_w]; rfl))
                       refine pure_ (i := 26) (N := some 93) (v := undef) (a' := ?_) (bitsA 38 134217727) rfl rfl (any_of HT_.out (by kernel_rfl)) (fun _ _ _ h => h) (Or.inr ⟨by rfl, rfl⟩) ?_ ?_; rotate_left; (· (simp only [Act.put, List.setIfInBounds_toArray, List.set_cons_zero, List.set_cons_succ, i64_w, i32_w]; rfl))
                       refine pure_ (i := 27) (N := some 94) (v := undef) (a' := ?_) (bitsA 38 268435455) rfl rfl (any_of HT_.out (by kernel_rfl)) (fun _ _ _ h => h) (Or.inr ⟨by rfl, rfl⟩) ?_ ?_; rotate_left; (· (simp only [Act.put, List.setIfInBounds_toArray, List.set_cons_zero, List.set_cons_succ, i64_w, i32_w]; rfl))
                       refine pure_ (i := 28) (N := some 95) (v := undef) (a' := ?_) (bitsA 38 536870911) rfl rfl (any_of HT_.out (by kernel_rfl)) (fun _ _ _ h => h) (Or.inr ⟨by rfl, rfl⟩) ?_ ?_; rotate_left; (· (simp only [Act.put, List.setIfInBounds_toArray, List.set_cons_zero, List.set_cons_succ, i64_w, i32_w]; rfl))
                       refine pure_ (i := 29) (N := some 96) (v := undef) (a' := ?_) (bitsA 38 1073741823) rfl rfl (any_of HT_.out (by kernel_rfl)) (fun _ _ _ h => h) (Or.inr ⟨by rfl, rfl⟩) ?_ ?_; rotate_left; (· (simp only [Act.put, List.setIfInBounds_toArray, List.set_cons_zero, List.set_cons_succ, i64_w, i32_w]; rfl))
                       refine pure_ (i := 30) (N := some 97) (v := undef) (a' := ?_) (bitsA 38 2147483647) rfl rfl (any_of HT_.out (by kernel_rfl)) (fun _ _ _ h => h) (Or.inr ⟨by rfl, rfl⟩) ?_ ?_; rotate_left; (· (simp only [Act.put, List.setIfInBounds_toArray, List.set_cons_zero, List.set_cons_succ, i64_w, i32_w]; rfl))
                       refine pure_ (i := 31) (N := some 98) (v := undef) (a' := ?_) (bitsA 38 4294967295) rfl rfl (any_of HT_.out (by kernel_rfl)) (fun _ _ _ h => h) (Or.inr ⟨by rfl, rfl⟩) ?_ ?_; rotate_left; (· (simp only [Act.put, List.setIfInBounds_toArray, List.set_cons_zero, List.set_cons_succ, i64_w, i32_w]; rfl))
                       refine pure_ (i := 32) (N := some 99) (v := undef) (a' := ?_) (bitsA 38 8589934591) rfl rfl (any_of HT_.out (by kernel_rfl)) (fun _ _ _ h => h) (Or.inr ⟨by rfl, rfl⟩) ?_ ?_; rotate_left; (· (simp only [Act.put, List.setIfInBounds_toArray, List.set_cons_zero, List.set_cons_succ, i64_w, i32_w]; rfl))
                       refine pure_ (i := 33) (N := some 100) (v := undef) (a' := ?_) (bitsA 38 17179869183) rfl rfl (any_of HT_.out (by kernel_rfl)) (fun _ _ _ h => h) (Or.inr ⟨by rfl, rfl⟩) ?_ ?_; rotate_left; (· (simp only [Act.put, List.setIfInBounds_toArray, List.set_cons_zero, List.set_cons_succ, i64_w, i32_w]; rfl))
                       refine pure_ (i := 34) (N := some 101) (v := undef) (a' := ?_) (bitsA 38 34359738367) rfl rfl (any_of HT_.out (by kernel_rfl)) (fun _ _ _ h => h) (Or.inr ⟨by rfl, rfl⟩) ?_ ?_; rotate_left; (· (simp only [Act.put, List.setIfInBounds_toArray, List.set_cons_zero, List.set_cons_succ, i64_w, i32_w]; rfl))
                       refine pure_ (i := 35) (N := some 102) (v := undef) (a' := ?_) (bitsA 38 68719476735) rfl rfl (any_of HT_.out (by kernel_rfl)) (fun _ _ _ h => h) (Or.inr ⟨by rfl, rfl⟩) ?_ ?_; rotate_left; (· (simp only [Act.put, List.setIfInBounds_toArray, List.set_cons_zero, List.set_cons_succ, i64_w, i32_w]; rfl))
                       refine pure_ (i := 36) (N := some 103) (v := undef) (a' := ?_) (bitsA 38 137438953471) rfl rfl (any_of HT_.out (by kernel_rfl)) (fun _ _ _ h => h) (Or.inr ⟨by rfl, rfl⟩) ?_ ?_; rotate_left; (· (simp only [Act.put, List.setIfInBounds_toArray, List.set_cons_zero, List.set_cons_succ, i64_w, i32_w]; rfl))
                       refine pu 37 (some 104) (bitsA 38 274877906943) ?_
                       refine done_ (done_of HT_.out (by kernel_rfl)) ?_
                       try go_wp2
                       go_ret
                       exact ⟨ew, bl1 GE185⟩
                   · replace c33 := Bool.eq_false_iff.mpr c33
                     subst c33
                     replace H := iF H
                     obtain rfl := Option.some.inj H
                     obtain ⟨hcz49_0, hcz49_1, hcz49_2, hfz49_0, hfz49_1, hfz49_2⟩ := cz3 BK185
                     try go_wp2
                     replace BK185 := ak (blk_drew BK185.out)
                     replace HB := ak (below_drew1 HB.out)
                     have p192 : 0 ≤ (x5_3 : Int) := of_decide_eq_true am
                     have q192 : x5_3 < (((rd_T81 l0 x3_1).f2).length : Int) := of_decide_eq_true am
                     obtain ⟨ad192, e192, hx192_0, hx192_1⟩ := at_T37 HR184_2.out x5_3 p192 q192
                     have hw192_1 := hx192_1
                     have hw192_0 := hx192_0
                     cases e192
                     replace hx192_0 := cw hx192_0
                     replace hx192_1 := cw hx192_1
                     replace p192 := eq_true p192
                     replace q192 := eq_true q192
                     refine start_ (n := 38) (S := fun w' => w'.cell? ⟨gb185, 0, none⟩ = some (.string ((rd_T81 l0 x3_1).f0)) ∧ w'.cell? ⟨gb185, 1, none⟩ = some (.string ((rd_T81 l0 x3_1).f1)) ∧ w'.cell? ⟨gb185, 2, none⟩ = some (.slice (some ad192) ((rd_T81 l0 x3_1).f2).length c184_2) ∧ w'.cell? (ad192.add ((x5_3).toNat * 2)) = some (.int .i64 ((rd_T37 ((rd_T81 l0 x3_1).f2) x5_3).f0)) ∧ w'.cell? ⟨(ad192.add ((x5_3).toNat * 2)).block, (ad192.add ((x5_3).toNat * 2)).off + 1, none⟩ = some (.int .i64 ((rd_T37 ((rd_T81 l0 x3_1).f2) x5_3).f1))) (ds := []) (bitsA 38 0) (by kernel_rfl) rfl rfl ⟨bc BK185 0, bc BK185 1, bc BK185 2, (cw hw192_0), (cw hw192_1)⟩ (fun hHeld => ?_); refine with_tabW spec_StoreOk.tab12 spec_StoreOk.bits12 (fun HT_ HW_ => ?_)
                     generalize wr.drew = w50 at BK185 HB hx192_0 hx192_1 hHeld ⊢
                     refine pu 0 (some 67) (bitsA 38 1) ?_
                     refine tk 1 (some 68) (bitsA 38 3) hHeld ?_ (hy := Or.inl ⟨by rfl, by rintro w' ⟨s0, s1, s2, s3, s4⟩; go_simp; with_reducible rfl⟩)
                     refine pu 2 (some 69) (bitsA 38 7) ?_
                     refine pu 3 (some 70) (bitsA 38 15) ?_
                     refine pu 4 (some 71) (bitsA 38 31) ?_
                     refine tk 5 (some 72) (bitsA 38 63) hHeld ?_ (hy := Or.inl ⟨by rfl, by rintro w' ⟨s0, s1, s2, s3, s4⟩; go_simp; with_reducible rfl⟩)
                     refine one_ (i := 6) (N := some 73) (bitsA 38 127) rfl rfl (one_of HT_.out (by kernel_rfl)) (by decide) (fun K hK => ?_)
                     refine goes_ Try.func71 (by kernel_rfl) rfl #[.int .i64 ((rd_T37 ((rd_T81 l0 x3_1).f2) x5_3).f0)] (by rfl) rfl rfl mt ?_
                     with_reducible refine (spec_l02Tick.calls ((rd_T37 ((rd_T81 l0 x3_1).f2) x5_3).f0) false _ A32.out).mono ?_
                     rintro e w' ⟨rfl, ⟨nd, rfl⟩⟩
                     refine ⟨_, rfl, ?_⟩
                     refine hK.out _ _ ⟨bc BK185 0, bc BK185 1, bc BK185 2, (cw hw192_0), (cw hw192_1)⟩ (fun hHeld => ?_)
                     clear hK K
                     refine nm ?_
                     refine pu 7 (some 74) (bitsA 38 255) ?_
                     refine pu 8 (some 75) (bitsA 38 511) ?_
                     refine pure_ (i := 9) (N := some 76) (v := undef) (a' := ?_) (bitsA 38 1023) rfl rfl (any_of HT_.out (by kernel_rfl)) (fun _ _ _ h => h) (Or.inr ⟨by rfl, rfl⟩) ?_ ?_; rotate_left; (· (simp only [Act.put, List.setIfInBounds_toArray, List.set_cons_zero, List.set_cons_succ, i64_w, i32_w]; rfl))
                     refine pure_ (i := 10) (N := some 77) (v := undef) (a' := ?_) (bitsA 38 2047) rfl rfl (any_of HT_.out (by kernel_rfl)) (fun _ _ _ h => h) (Or.inr ⟨by rfl, rfl⟩) ?_ ?_; rotate_left; (· (simp only [Act.put, List.setIfInBounds_toArray, List.set_cons_zero, List.set_cons_succ, i64_w, i32_w]; rfl))
                     refine pure_ (i := 11) (N := some 78) (v := undef) (a' := ?_) (bitsA 38 4095) rfl rfl (any_of HT_.out (by kernel_rfl)) (fun _ _ _ h => h) (Or.inr ⟨by rfl, rfl⟩) ?_ ?_; rotate_left; (· (simp only [Act.put, List.setIfInBounds_toArray, List.set_cons_zero, List.set_cons_succ, i64_w, i32_w]; rfl))
                     refine pure_ (i := 12) (N := some 79) (v := undef) (a' := ?_) (bitsA 38 8191) rfl rfl (any_of HT_.out (by kernel_rfl)) (fun _ _ _ h => h) (Or.inr ⟨by rfl, rfl⟩) ?_ ?_; rotate_left; (· (simp only [Act.put, List.setIfInBounds_toArray, List.set_cons_zero, List.set_cons_succ, i64_w, i32_w]; rfl))
                     refine pure_ (i := 13) (N := some 80) (v := undef) (a' := ?_) (bitsA 38 16383) rfl rfl (any_of HT_.out (by kernel_rfl)) (fun _ _ _ h => h) (Or.inr ⟨by rfl, rfl⟩) ?_ ?_; rotate_left; (· (simp only [Act.put, List.setIfInBounds_toArray, List.set_cons_zero, List.set_cons_succ, i64_w, i32_w]; rfl))
                     refine pure_ (i := 14) (N := some 81) (v := undef) (a' := ?_) (bitsA 38 32767) rfl rfl (any_of HT_.out (by kernel_rfl)) (fun _ _ _ h => h) (Or.inr ⟨by rfl, rfl⟩) ?_ ?_; rotate_left; (· (simp only [Act.put, List.setIfInBounds_toArray, List.set_cons_zero, List.set_cons_succ, i64_w, i32_w]; rfl))
                     refine pure_ (i := 15) (N := some 82) (v := undef) (a' := ?_) (bitsA 38 65535) rfl rfl (any_of HT_.out (by kernel_rfl)) (fun _ _ _ h => h) (Or.inr ⟨by rfl, rfl⟩) ?_ ?_; rotate_left; (· (simp only [Act.put, List.setIfInBounds_toArray, List.set_cons_zero, List.set_cons_succ, i64_w, i32_w]; rfl))
                     refine pure_ (i := 16) (N := some 83) (v := undef) (a' := ?_) (bitsA 38 131071) rfl rfl (any_of HT_.out (by kernel_rfl)) (fun _ _ _ h => h) (Or.inr ⟨by rfl, rfl⟩) ?_ ?_; rotate_left; (· (simp only [Act.put, List.setIfInBounds_toArray, List.set_cons_zero, List.set_cons_succ, i64_w, i32_w]; rfl))
                     refine pu 17 (some 84) (bitsA 38 262143) ?_
                     refine pu 18 (some 85) (bitsA 38 524287) ?_
                     refine pure_ (i := 19) (N := some 86) (v := undef) (a' := ?_) (bitsA 38 1048575) rfl rfl (any_of HT_.out (by kernel_rfl)) (fun _ _ _ h => h) (Or.inr ⟨by rfl, rfl⟩) ?_ ?_; rotate_left; (· (simp only [Act.put, List.setIfInBounds_toArray, List.set_cons_zero, List.set_cons_succ, i64_w, i32_w]; rfl))
                     refine pure_ (i := 20) (N := some 87) (v := undef) (a' := ?_) (bitsA 38 2097151) rfl rfl (any_of HT_.out (by kernel_rfl)) (fun _ _ _ h => h) (Or.inr ⟨by rfl, rfl⟩) ?_ ?_; rotate_left; (· (simp only [Act.put, List.setIfInBounds_toArray, List.set_cons_zero, List.set_cons_succ, i64_w, i32_w]; rfl))
                     refine pure_ (i := 21) (N := some 88) (v := undef) (a' := ?_) (bitsA 38 4194303) rfl rfl (any_of HT_.out (by kernel_rfl)) (fun _ _ _ h => h) (Or.inr ⟨by rfl, rfl⟩) ?_ ?_; rotate_left; (· (simp only [Act.put, List.setIfInBounds_toArray, List.set_cons_zero, List.set_cons_succ, i64_w, i32_w]; rfl))
                     refine pure_ (i := 22) (N := some 89) (v := undef) (a' := ?_) (bitsA 38 8388607) rfl rfl (any_of HT_.out (by kernel_rfl)) (fun _ _ _ h => h) (Or.inr ⟨by rfl, rfl⟩) ?_ ?_; rotate_left; (· (simp only [Act.put, List.setIfInBounds_toArray, List.set_cons_zero, List.set_cons_succ, i64_w, i32_w]; rfl))
                     refine pure_ (i := 23) (N := some 90) (v := undef) (a' := ?_) (bitsA 38 16777215) rfl rfl (any_of HT_.out (by kernel_rfl)) (fun _ _ _ h => h) (Or.inr ⟨by rfl, rfl⟩) ?_ ?_; rotate_left; (· (simp only [Act.put, List.setIfInBounds_toArray, List.set_cons_zero, List.set_cons_succ, i64_w, i32_w]; rfl))
                     refine pure_ (i := 24) (N := some 91) (v := undef) (a' := ?_) (bitsA 38 33554431) rfl rfl (any_of HT_.out (by kernel_rfl)) (fun _ _ _ h => h) (Or.inr ⟨by rfl, rfl⟩) ?_ ?_; rotate_left; (· (simp only [Act.put, List.setIfInBounds_toArray, List.set_cons_zero, List.set_cons_succ, i64_w, i32_w]; rfl))
                     refine pure_ (i := 25) (N := some 92) (v := undef) (a' := ?_) (bitsA 38 67108863) rfl rfl (any_of HT_.out (by kernel_rfl)) (fun _ _ _ h => h) (Or.inr ⟨by rfl, rfl⟩) ?_ ?_; rotate_left; (· (simp only [Act.put, List.setIfInBounds_toArray, List.set_cons_zero, List.set_cons_succ, i64_w, i32_w]; rfl))
                     refine pure_ (i := 26) (N := some 93) (v := undef) (a' := ?_) (bitsA 38 134217727) rfl rfl (any_of HT_.out (by kernel_rfl)) (fun _ _ _ h => h) (Or.inr ⟨by rfl, rfl⟩) ?_ ?_; rotate_left; (· (simp only [Act.put, List.setIfInBounds_toArray, List.set_cons_zero, List.set_cons_succ, i64_w, i32_w]; rfl))
                     refine pure_ (i := 27) (N := some 94) (v := undef) (a' := ?_) (bitsA 38 268435455) rfl rfl (any_of HT_.out (by kernel_rfl)) (fun _ _ _ h => h) (Or.inr ⟨by rfl, rfl⟩) ?_ ?_; rotate_left; (· (simp only [Act.put, List.setIfInBounds_toArray, List.set_cons_zero, List.set_cons_succ, i64_w, i32_w]; rfl))
                     refine pure_ (i := 28) (N := some 95) (v := undef) (a' := ?_) (bitsA 38 536870911) rfl rfl (any_of HT_.out (by kernel_rfl)) (fun _ _ _ h => h) (Or.inr ⟨by rfl, rfl⟩) ?_ ?_; rotate_left; (· (simp only [Act.put, List.setIfInBounds_toArray, List.set_cons_zero, List.set_cons_succ, i64_w, i32_w]; rfl))
                     refine pure_ (i := 29) (N := some 96) (v := undef) (a' := ?_) (bitsA 38 1073741823) rfl rfl (any_of HT_.out (by kernel_rfl)) (fun _ _ _ h => h) (Or.inr ⟨by rfl, rfl⟩) ?_ ?_; rotate_left; (· (simp only [Act.put, List.setIfInBounds_toArray, List.set_cons_zero, List.set_cons_succ, i64_w, i32_w]; rfl))
                     refine pure_ (i := 30) (N := some 97) (v := undef) (a' := ?_) (bitsA 38 2147483647) rfl rfl (any_of HT_.out (by kernel_rfl)) (fun _ _ _ h => h) (Or.inr ⟨by rfl, rfl⟩) ?_ ?_; rotate_left; (· (simp only [Act.put, List.setIfInBounds_toArray, List.set_cons_zero, List.set_cons_succ, i64_w, i32_w]; rfl))
                     refine pure_ (i := 31) (N := some 98) (v := undef) (a' := ?_) (bitsA 38 4294967295) rfl rfl (any_of HT_.out (by kernel_rfl)) (fun _ _ _ h => h) (Or.inr ⟨by rfl, rfl⟩) ?_ ?_; rotate_left; (· (simp only [Act.put, List.setIfInBounds_toArray, List.set_cons_zero, List.set_cons_succ, i64_w, i32_w]; rfl))
                     refine pure_ (i := 32) (N := some 99) (v := undef) (a' := ?_) (bitsA 38 8589934591) rfl rfl (any_of HT_.out (by kernel_rfl)) (fun _ _ _ h => h) (Or.inr ⟨by rfl, rfl⟩) ?_ ?_; rotate_left; (· (simp only [Act.put, List.setIfInBounds_toArray, List.set_cons_zero, List.set_cons_succ, i64_w, i32_w]; rfl))
                     refine pure_ (i := 33) (N := some 100) (v := undef) (a' := ?_) (bitsA 38 17179869183) rfl rfl (any_of HT_.out (by kernel_rfl)) (fun _ _ _ h => h) (Or.inr ⟨by rfl, rfl⟩) ?_ ?_; rotate_left; (· (simp only [Act.put, List.setIfInBounds_toArray, List.set_cons_zero, List.set_cons_succ, i64_w, i32_w]; rfl))
                     refine pure_ (i := 34) (N := some 101) (v := undef) (a' := ?_) (bitsA 38 34359738367) rfl rfl (any_of HT_.out (by kernel_rfl)) (fun _ _ _ h => h) (Or.inr ⟨by rfl, rfl⟩) ?_ ?_; rotate_left; (· (simp only [Act.put, List.setIfInBounds_toArray, List.set_cons_zero, List.set_cons_succ, i64_w, i32_w]; rfl))
                     refine pure_ (i := 35) (N := some 102) (v := undef) (a' := ?_) (bitsA 38 68719476735) rfl rfl (any_of HT_.out (by kernel_rfl)) (fun _ _ _ h => h) (Or.inr ⟨by rfl, rfl⟩) ?_ ?_; rotate_left; (· (simp only [Act.put, List.setIfInBounds_toArray, List.set_cons_zero, List.set_cons_succ, i64_w, i32_w]; rfl))
                     refine pure_ (i := 36) (N := some 103) (v := undef) (a' := ?_) (bitsA 38 137438953471) rfl rfl (any_of HT_.out (by kernel_rfl)) (fun _ _ _ h => h) (Or.inr ⟨by rfl, rfl⟩) ?_ ?_; rotate_left; (· (simp only [Act.put, List.setIfInBounds_toArray, List.set_cons_zero, List.set_cons_succ, i64_w, i32_w]; rfl))
                     refine pu 37 (some 104) (bitsA 38 274877906943) ?_
                     refine done_ (done_of HT_.out (by kernel_rfl)) ?_
                     try go_wp2
                     go_ret
                     exact ⟨ew, bl1 GE185⟩
                 · rw [if_neg c31] at H
                   exact absurd H (by simp)
               · rw [if_neg c30] at H
                 have c30b0 : decide (x5_3 < (((rd_T81 l0 x3_1).f2).length : Int)) = false := decide_eq_false c30
                 clear c30
                 have H' := Aside0.mk H
                 clear H
                 obtain ⟨hcz51_0, hcz51_1, hcz51_2, hfz51_0, hfz51_1, hfz51_2⟩ := cz3 BK185
                 go_wp2
                 go_roundg k3
                 case measure => have := HK1.out; have := HJ4.out; have := HK3.out; omega
                 case rel => exact ⟨(wrap64 (x3_1 + 1)), es, H', ⟨by have := HK1.out; have := HJ4.out; have := HK3.out; omega⟩, ⟨bl1 GE185⟩⟩
       · rw [if_neg c4] at H
         exact absurd H (by simp)
     · rw [if_neg c3] at H
       have c3b0 : decide (x3_1 < (l0.length : Int)) = false := decide_eq_false c3
       clear c3
       obtain rfl := Option.some.inj H
       go_wp2
       go_ret
       exact ⟨ew, bl⟩

end Go.Proofs.Ytplekidnlofioaa.Q
namespace Go.Proofs.Ytplekidnlofioaa.Q
open Go.RowKit Go.Proofs.YtplekidnlofioaaW.PrintWords Go.Proofs.YtplekidnlofioaaW.PrintLast Go.Proofs.YtplekidnlofioaaW.PrintMore
attribute [local go_sem] max2_int min2_int max_two min_two max_three min_three max_four min_four   -- for this text's walks alone
set_option linter.unusedVariables false
set_option linter.unusedSimpArgs false

/-! ### impl_isTick: function 122 -/
def impl_isTick.f (a0 : Int) : Option (Bool) := (impl_in.f a0 0 1000000000).bind fun t102 => (some t102)
set_option maxHeartbeats 8000000 in
set_option maxRecDepth 100000 in
theorem impl_isTick.calls (a0 : Int) (r : Bool) (w : World) (h : impl_isTick.f a0 = some r) :
 Calls Try.prog 122 #[.int .i64 a0] w fun e w' => e = .returned (.bool r) ∧ Drawn0 w w' := by
 have H : ((impl_in.f a0 0 1000000000).bind fun t102 => (some t102)) = some r := h
 clear h
 obtain ⟨t102, A20, H⟩ := bo H
 have A2 := Aside0.mk A20
 clear A20
 obtain rfl := Option.some.inj H
 go_enter Try.func122, Try.ntmps122
 go_wp2_with (first | ((with_reducible refine gate_callee (f := 124) rfl ?_); refine gl (some 4) Try.func124 #[.int .i64 a0, .int .i64 0, .int .i64 1000000000] ?_; (with_reducible refine (impl_in.calls a0 0 1000000000 t102 _ A2.out).mono ?_); rintro e w' ⟨rfl, ⟨nd, rfl⟩⟩; refine ⟨_, rfl, ?_⟩))
 go_ret
 exact ⟨es, dr0⟩

end Go.Proofs.Ytplekidnlofioaa.Q
namespace Go.Proofs.Ytplekidnlofioaa.Q
open Go.RowKit Go.Proofs.YtplekidnlofioaaW.PrintWords Go.Proofs.YtplekidnlofioaaW.PrintLast Go.Proofs.YtplekidnlofioaaW.PrintMore
attribute [local go_sem] max2_int min2_int max_two min_two max_three min_three max_four min_four   -- for this text's walks alone
set_option linter.unusedVariables false
set_option linter.unusedSimpArgs false

/-! ### impl_isSize: function 150 -/
def impl_isSize.f (a0 : Int) : Option (Bool) := (impl_in.f a0 0 1000000000).bind fun t103 => (some t103)
set_option maxHeartbeats 8000000 in
set_option maxRecDepth 100000 in
theorem impl_isSize.calls (a0 : Int) (r : Bool) (w : World) (h : impl_isSize.f a0 = some r) :
 Calls Try.prog 150 #[.int .i64 a0] w fun e w' => e = .returned (.bool r) ∧ Drawn0 w w' := by
 have H : ((impl_in.f a0 0 1000000000).bind fun t103 => (some t103)) = some r := h
 clear h
 obtain ⟨t103, A20, H⟩ := bo H
 have A2 := Aside0.mk A20
 clear A20
 obtain rfl := Option.some.inj H
 go_enter Try.func150, Try.ntmps150
 go_wp2_with (first | ((with_reducible refine gate_callee (f := 124) rfl ?_); refine gl (some 4) Try.func124 #[.int .i64 a0, .int .i64 0, .int .i64 1000000000] ?_; (with_reducible refine (impl_in.calls a0 0 1000000000 t103 _ A2.out).mono ?_); rintro e w' ⟨rfl, ⟨nd, rfl⟩⟩; refine ⟨_, rfl, ?_⟩))
 go_ret
 exact ⟨es, dr0⟩

end Go.Proofs.Ytplekidnlofioaa.Q
