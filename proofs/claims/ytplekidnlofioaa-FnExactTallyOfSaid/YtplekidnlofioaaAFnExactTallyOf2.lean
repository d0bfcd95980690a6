/- Part 2 of the proof of FnExactTallyOf: contracts of the functions that it reaches, printed and by hand, and what they come to in plain Lean. -/
import Derived.Test.YtplekidnlofioaaProg
import Derived.Below
import Derived.Deep.Draws
import Derived.Deep.AppendLies
import Derived.Maps.AppendAt
import Derived.OwnWalk
import Derived.Laws.BytesArg
import Derived.Laws.MakeOwn
import Derived.Laws.OwnMore
import Derived.Deep.OwnRows
import Derived.Tactics
import Derived.Lib.ConvBytes
import Derived.Laws.Slices
import Derived.WalkKit
import Derived.KernelRfl
import Derived.RowKit3
import Derived.Deep.LoopGhost
import Derived.Deep.QuietTactic
import Derived.BigQuiet
import Derived.WideLaws
import Derived.Deep.DeepCutAuto
import Derived.Deep.CutBlock
import Derived.Deep.RegionHeld3
import Derived.Laws.Rows
import Derived.Lib.AppendStr
import Derived.ArgAppend
import Derived.Laws.IdiomCopy
import Derived.OrdersHeld
import Derived.Laws.BitsLemmas
import Derived.RowKit
import Derived.Test.YtplekidnlofioaaAFnExactTallyOf1
namespace Go.Proofs.Ytplekidnlofioaa.Q
open Go.RowKit Go.Proofs.YtplekidnlofioaaW.PrintWords Go.Proofs.YtplekidnlofioaaW.PrintLast Go.Proofs.YtplekidnlofioaaW.PrintMore
attribute [local go_sem] max2_int min2_int max_two min_two max_three min_three max_four min_four   -- for this text's walks alone
set_option linter.unusedVariables false
set_option linter.unusedSimpArgs false



def errW : Option Int → Value
  | none => .nilIface
  | some c => .iface 0 (.int .i64 c)
theorem errW_none : errW none = .nilIface := rfl
theorem errW_some (c : Int) : errW (some c) = .iface 0 (.int .i64 c) := rfl


def bitsA (n m : Nat) : Array Bool := ((List.range n).map fun j => m.testBit j).toArray
theorem pu {P : Program} {md : Region.Mode} {ops : Array Oper} {Q : Exit → Act → World → Prop} {S : World → Prop} {ds : List Nat} (i : Nat) (N : Option Tmp) (l' : Array Bool) {oi : Oper} {v : Value} {fuel : Nat} {l : Array Bool} {a : Act} {w : World} {a' : Act}
    (h : wpAnyLast P md ops Q S ds fuel l' a' w) (hi : ops[i]? = some oi := by rfl) (hN : oi.dst = N := by rfl) (hc : anyB md ops l l' i = true := by exact any_of HT_.out (by kernel_rfl))
    (hQ : ∀ c a w, Q (.panic c) (a.put oi.dst v) w → Q (.panic c) a w := by exact fun _ _ _ h => h) (hy : Yields P ops oi v a := by (refine Or.inl ⟨by rfl, ?_⟩; intro w'; go_simp; with_reducible rfl)) (ha : a.put N v = a' := by (simp only [Act.put, List.setIfInBounds_toArray, List.set_cons_zero, List.set_cons_succ, i64_w, i32_w]; rfl)) :
    wpAnyLast P md ops Q S ds (fuel + 1) l a w := pure_ l' hi hN hc hQ hy ha h
theorem bk {A B : Prop} (x : Aside0 A) (f : A → B := by (intro hx_; (with_reducible repeat (first | refine blk_drewN ?_ _ | refine blk_drew ?_ | refine blk_alloc ?_ _)); exact hx_)) : B := f x.out
theorem kr {A B : Prop} (x : Aside0 A) (f : A → B := by (intro hx_; (with_reducible repeat (first | apply Kd.R_alloc | apply Kd.R_drewN | apply Kd.R_drew)); exact hx_)) : B := f x.out
theorem ks {A B : Prop} (x : Aside0 A) (f : A → B := by (intro hx_; (with_reducible repeat (first | apply Kd.S_alloc | apply Kd.S_drewN | apply Kd.S_drew)); exact hx_)) : B := f x.out
theorem bl {B : Prop} (h : B := by repeat (first | (with_reducible first | exact HB.out | apply below_alloc | apply pw_below_drewN | apply below_drew1) | exact HB.out)) : B := h
theorem bl1 {A B : Prop} (x : Aside0 A) (f : A → B := by (intro hx_; repeat (first | (with_reducible first | exact HB.out | apply below_alloc | apply pw_below_drewN | apply below_drew1 | refine below_set ?_ hx_) | exact HB.out))) : B := f x.out
theorem bl2 {A A2 B : Prop} (x : Aside0 A) (y : Aside0 A2) (f : A → A2 → B := by (intro hx_ hy_; repeat (first | (with_reducible first | exact HB.out | apply below_alloc | apply pw_below_drewN | apply below_drew1 | refine below_set ?_ hx_ | refine below_set ?_ hy_) | exact HB.out))) : B := f x.out y.out
theorem bl3 {A A2 A3 B : Prop} (x : Aside0 A) (y : Aside0 A2) (z : Aside0 A3) (f : A → A2 → A3 → B := by (intro hx_ hy_ hz_; repeat (first | (with_reducible first | exact HB.out | apply below_alloc | apply pw_below_drewN | apply below_drew1 | refine below_set ?_ hx_ | refine below_set ?_ hy_ | refine below_set ?_ hz_) | exact HB.out))) : B := f x.out y.out z.out

theorem iT {α : Type} {c : Decidable (true = true)} {x y r : α} (h : (if true = true then x else y) = r) : x = r := by rw [if_pos rfl] at h; exact h
theorem iF {α : Type} {c : Decidable (false = true)} {x y r : α} (h : (if false = true then x else y) = r) : y = r := by rw [if_neg Bool.false_ne_true] at h; exact h
theorem bo {α β : Type} {x : Option α} {f : α → Option β} {r : β} (h : x.bind f = some r) : ∃ a, x = some a ∧ f a = some r := Option.bind_eq_some_iff.mp h
theorem ak {p : Prop} (h : p) : Aside0 p := ⟨h⟩
theorem am {p : Prop} (h : p := by first | (with_reducible assumption) | assumption) : p := h
theorem ew {p : Prop} (h : p := by first | rfl | (simp [errW_none, errW_some] <;> rfl) | (simp [*, errW_none, errW_some] <;> rfl)) : p := h
theorem es {p : Prop} (h : p := by first | rfl | (simp; done) | (simp [*]; done)) : p := h
theorem ko {p : Prop} (h : p := by (have := HK1.out; first | omega | exact Nat.le_refl _)) : p := h
theorem kp {p : Prop} (h : p := by (have := HK1.out; omega)) : p := h
theorem dr0 {p : Prop} (h : p := by repeat (first | exact Drawn0.refl _ | apply Drawn0.step)) : p := h
theorem mt {p : Prop} (h : p := by ((try simp only [List.map_toArray, List.map_cons, List.map_nil]); first | done | rfl | (simp only [List.length_drop, List.length_take]; rfl))) : p := h
theorem dd {p : Prop} (h : p := by first | exact ⟨rfl, _, World.drewN_drewN _ _ _⟩ | exact ⟨rfl, _, Eq.trans (World.drewN_drewN _ _ _) (congrArg (World.drewN _) (Nat.add_assoc _ _ _))⟩) : p := h
theorem cw {w0 W : World} {p : Addr} {v : Value} (h : w0.cell? p = some v) (hb : Below w0.heap.size w0 W := by first | exact HB.out | exact bl) : W.cell? p = some v := (hb.cell (World.block_lt_of_cell? w0 _ h)).trans h
theorem cb {A B : Prop} (x : Aside0 A) (f : A → B := by (intro hx_; repeat (first | exact (Kd.C_below hx_ HB.out) | (with_reducible refine Kd.C_alloc ?_ _) | (with_reducible refine Kd.C_drewN ?_ _) | (with_reducible refine Kd.C_drew ?_)))) : B := f x.out
theorem bb {W0 W1 W2 : World} {g : Nat} {o : Obj} (x : Aside0 (W0.heap[g]? = some o)) (hb : Below W1.heap.size W1 W2) (f : W0.heap[g]? = some o → W1.heap[g]? = some o := by (intro hx_; (with_reducible repeat (first | refine blk_drewN ?_ _ | refine blk_drew ?_ | refine blk_alloc ?_ _)); exact hx_)) : Aside0 (W2.heap[g]? = some o) := ⟨blk_below (f x.out) hb⟩
theorem bf1 {W0 W1 W2 : World} {g : Nat} {o : Obj} {p1 : Prop} (x : Aside0 (W0.heap[g]? = some o)) (n1 : Aside0 p1) (hb : Below W1.heap.size W1 W2) (f : W0.heap[g]? = some o → p1 → W1.heap[g]? = some o := by (intro hx_ hm_; repeat (first | (with_reducible first | exact hx_ | refine blk_drewN ?_ _ | refine blk_drew ?_ | refine blk_alloc ?_ _) | refine blk_far ?_ hm_ _))) : Aside0 (W2.heap[g]? = some o) := ⟨blk_below (f x.out n1.out) hb⟩
theorem gs {G : Nat} {w W : World} (hg : G = W.heap.size) (h : Below w.heap.size w W) : Aside0 (w.heap.size ≤ G) := ⟨by rw [hg]; exact below_size h⟩
theorem nl {W0 W : World} {g G : Nat} {o : Obj} (hg : G = W.heap.size) (x : Aside0 (W0.heap[g]? = some o)) (f : W0.heap[g]? = some o → W.heap[g]? = some o := by (intro hx_; (with_reducible repeat (first | refine blk_drewN ?_ _ | refine blk_drew ?_ | refine blk_alloc ?_ _)); exact hx_)) : Aside0 (g ≠ G) := ⟨by rw [hg]; exact Nat.ne_of_lt (blk_lt (f x.out))⟩
theorem ng {W0 W : World} {g G : Nat} {o : Obj} (hg : G = W.heap.size) (x : Aside0 (W0.heap[g]? = some o)) (f : W0.heap[g]? = some o → W.heap[g]? = some o := by (intro hx_; (with_reducible repeat (first | refine blk_drewN ?_ _ | refine blk_drew ?_ | refine blk_alloc ?_ _)); exact hx_)) : Aside0 (G ≠ g) := ⟨by rw [hg]; exact Nat.ne_of_gt (blk_lt (f x.out))⟩
theorem bc {w : World} {g : Nat} {t : TypeId} {cs : Array Value} {v : Value} (x : Aside0 (w.heap[g]? = some (.cells cs t (0, 0)))) (i : Nat) (h : cs[i]? = some v := by rfl) : w.cell? ⟨g, i, none⟩ = some v := (blk_cell x.out i).trans h
theorem cz2 {w : World} {g : Nat} {t : TypeId} {v0 v1 : Value} (x : Aside0 (w.heap[g]? = some (.cells #[v0, v1] t (0, 0)))) : w.cell? ⟨g, 0, none⟩ = some v0 ∧ w.cell? ⟨g, 1, none⟩ = some v1 ∧ w.frozen? ⟨g, 0, none⟩ = false ∧ w.frozen? ⟨g, 1, none⟩ = false := ⟨(blk_cell x.out 0).trans rfl, (blk_cell x.out 1).trans rfl, blk_frozen x.out 0, blk_frozen x.out 1⟩
theorem cz3 {w : World} {g : Nat} {t : TypeId} {v0 v1 v2 : Value} (x : Aside0 (w.heap[g]? = some (.cells #[v0, v1, v2] t (0, 0)))) : w.cell? ⟨g, 0, none⟩ = some v0 ∧ w.cell? ⟨g, 1, none⟩ = some v1 ∧ w.cell? ⟨g, 2, none⟩ = some v2 ∧ w.frozen? ⟨g, 0, none⟩ = false ∧ w.frozen? ⟨g, 1, none⟩ = false ∧ w.frozen? ⟨g, 2, none⟩ = false := ⟨(blk_cell x.out 0).trans rfl, (blk_cell x.out 1).trans rfl, (blk_cell x.out 2).trans rfl, blk_frozen x.out 0, blk_frozen x.out 1, blk_frozen x.out 2⟩
theorem cz4 {w : World} {g : Nat} {t : TypeId} {v0 v1 v2 v3 : Value} (x : Aside0 (w.heap[g]? = some (.cells #[v0, v1, v2, v3] t (0, 0)))) : w.cell? ⟨g, 0, none⟩ = some v0 ∧ w.cell? ⟨g, 1, none⟩ = some v1 ∧ w.cell? ⟨g, 2, none⟩ = some v2 ∧ w.cell? ⟨g, 3, none⟩ = some v3 ∧ w.frozen? ⟨g, 0, none⟩ = false ∧ w.frozen? ⟨g, 1, none⟩ = false ∧ w.frozen? ⟨g, 2, none⟩ = false ∧ w.frozen? ⟨g, 3, none⟩ = false := ⟨(blk_cell x.out 0).trans rfl, (blk_cell x.out 1).trans rfl, (blk_cell x.out 2).trans rfl, (blk_cell x.out 3).trans rfl, blk_frozen x.out 0, blk_frozen x.out 1, blk_frozen x.out 2, blk_frozen x.out 3⟩
section
variable {P : Program} {ops : Array Oper} {rest : List Oper} {o : Oper} {a : Act} {Q : Exit → Act → World → Prop}
theorem bx {W : World} (N : Tmp) (cs : Array Value) (t : TypeId) (h : ∀ g, g = W.heap.size → ∀ w1, w1.heap[g]? = some (.cells cs t (0, 0)) → Below W.heap.size W w1 → wpList P ops Q rest (a.put o.dst (.pointer (some ⟨g, 0, none⟩))) w1)
    (hd : o.dst = some N := by rfl) (hgd : o.guard = none := by rfl) (hrun : (execOp a.eval o).run P W = .ok (.value (.pointer (some ⟨W.heap.size, 0, none⟩))) (W.alloc (.cells cs t (0, 0))) := by first | (go_simp; done) | (go_simp; rfl)) : wpList P ops Q (o :: rest) a W := box_event hgd hd hrun h
theorem gl {w : World} (N : Option Tmp) {f : FuncId} {fn : Func} {ao : Array Operand} {ts : Array TypeId} (hf : P.funcs[f]? = some fn) (args : Array Value) (h : Calls P f args w fun e w' => ∃ v, e = .returned v ∧ wpList P ops Q rest (a.put N v) w')
    (hd : o.dst = N := by rfl) (hg : o.guard = none := by rfl) (hname : (fn.name == "runtime.NumGoroutine") = false := by kernel_rfl) (hb : fn.body.isSome = true := by rfl) (hop : o.op = .call { callee := .value (.func f), args := ao, argTypes := ts } := by rfl) (hargs : ao.map a.eval = args := by exact mt) : wpList P ops Q (o :: rest) a w := goesL_ N hd hg hf hname hb args hop hargs h
theorem tk {md : Region.Mode} {S : World → Prop} {ds : List Nat} (i : Nat) (N : Option Tmp) (l' : Array Bool) {oi : Oper} {v : Value} {fuel : Nat} {l : Array Bool} {w : World} {a' : Act}
    (hS : S w) (h : wpAnyLast P md ops Q S ds fuel l' a' w) (hi : ops[i]? = some oi := by rfl) (hN : oi.dst = N := by rfl) (hc : takeB md ops ds l l' i = true := by exact take_ofW HT_.out HW_.out (by kernel_rfl))
    (hQ : ∀ c a w, Q (.panic c) (a.put oi.dst v) w → Q (.panic c) a w := by exact fun _ _ _ h => h) (hy : YieldsIf P ops S oi v a := by fail) (ha : a.put N v = a' := by (simp only [Act.put, List.setIfInBounds_toArray, List.set_cons_zero, List.set_cons_succ, i64_w, i32_w]; rfl)) : wpAnyLast P md ops Q S ds (fuel + 1) l a w := take_ l' hi hN hc hQ hy hS ha h
theorem nm {md : Region.Mode} {S : World → Prop} {ds : List Nat} {fuel : Nat} {l : Array Bool} {w : World} {a' : Act} (h : wpAnyLast P md ops Q S ds fuel l a' w) (ha : a = a' := by (show Act.put _ _ _ = _; simp only [Act.put, List.setIfInBounds_toArray, List.set_cons_zero, List.set_cons_succ, i64_w, i32_w]; rfl)) : wpAnyLast P md ops Q S ds fuel l a w := norm_ ha h
end

theorem info3 : (Try.prog.info? 3).map (fun i => (i.zero, i.size, i.bytes)) = some (some (.int .i64 0), 1, 8) := by kernel_rfl
theorem info37 : (Try.prog.info? 37).map (fun i => (i.zero, i.size, i.bytes)) = some (some (.agg #[(.int .i64 0), (.int .i64 0)]), 2, 16) := by kernel_rfl
theorem info81 : (Try.prog.info? 81).map (fun i => (i.zero, i.size, i.bytes)) = some (some (.agg #[(.string ⟨#[]⟩), (.string ⟨#[]⟩), (.slice none 0 0)]), 3, 56) := by kernel_rfl
theorem info147 : (Try.prog.info? 147).map (fun i => (i.zero, i.size, i.bytes)) = some (some (.agg #[(.string ⟨#[]⟩), (.int .i64 0), (.int .i64 0), (.bool false)]), 4, 40) := by kernel_rfl
structure S37 where
  f0 : Int
  f1 : Int
def z37 : S37 := ⟨(0 : Int), (0 : Int)⟩
def k37 : Kd S37 := Kd.iso (Kd.pair (Kd.int .i64) (Kd.int .i64)) (fun x : S37 => (x.f0, x.f1))
theorem k37_heap : Kd.Heap k37 := Kd.heap_iso _ (Kd.heap_pair (Kd.heap_int .i64) (Kd.heap_int .i64))
theorem k37_open {w : World} {x : S37} {cs : List Value} (h : k37.K w x cs) : cs = [.int .i64 x.f0, .int .i64 x.f1] := by
  obtain ⟨_, _, rfl, rfl, rfl⟩ := h
  exact rfl
theorem k37_openM {w : World} {base : Nat} {ok : Nat → Prop} {x : S37} {cs : List Value} (h : k37.M w base ok x cs) : cs = [.int .i64 x.f0, .int .i64 x.f1] := by
  obtain ⟨_, _, rfl, rfl, rfl⟩ := h
  exact rfl
theorem k37_mkM (w : World) (base : Nat) (ok : Nat → Prop) (x : S37)  : k37.M w base ok x [.int .i64 x.f0, .int .i64 x.f1] := ⟨[.int .i64 x.f0], [.int .i64 x.f1], rfl, rfl, rfl⟩
def rd_T37 (xs : List S37) (i : Int) : S37 := xs.getD i.toNat z37
theorem at_T37 {w : World} {A : Option Addr} {n : Nat} {xs : List S37} (h : Kd.C k37 w A n xs) (i : Int) (h0 : 0 ≤ i) (h1 : i < n) : ∃ ad , A = some ad ∧ w.cell? (ad.add (i.toNat * 2)) = some (.int .i64 (rd_T37 xs i).f0) ∧ w.cell? ⟨(ad.add (i.toNat * 2)).block, (ad.add (i.toNat * 2)).off + 1, none⟩ = some (.int .i64 (rd_T37 xs i).f1) := by
  obtain ⟨ad, c, e, _, hK, hc0⟩ := Kd.C_get h z37 i h0 h1
  have hc : ∀ j u, c[j]? = some u → w.cell? (ad.add (i.toNat * 2 + j)) = some u := hc0
  obtain rfl := k37_open hK
  exact ⟨ad, e, hc 0 _ rfl, by rw [← add_field _ _ 1 (by omega)]; exact hc 1 _ rfl⟩

structure S81 where
  f0 : ByteArray
  f1 : ByteArray
  f2 : (List S37)
def z81 : S81 := ⟨(⟨#[]⟩ : ByteArray), (⟨#[]⟩ : ByteArray), ([] : List S37)⟩
def k81 : Kd S81 := Kd.iso (Kd.pair Kd.string (Kd.pair Kd.string (Kd.slice 37 k37))) (fun x : S81 => (x.f0, x.f1, x.f2))
theorem k81_heap : Kd.Heap k81 := Kd.heap_iso _ (Kd.heap_pair Kd.heap_string (Kd.heap_pair Kd.heap_string (Kd.heap_slice 37 k37_heap)))
theorem k81_open {w : World} {x : S81} {cs : List Value} (h : k81.K w x cs) : ∃ A2 c2, cs = [.string x.f0, .string x.f1, .slice A2 x.f2.length c2] ∧ x.f2.length ≤ c2 ∧ k37.C w A2 x.f2.length x.f2 := by
  obtain ⟨_, _, rfl, rfl, ⟨_, _, rfl, rfl, ⟨A2, c2, rfl, l2, g2⟩⟩⟩ := h
  exact ⟨A2, c2, rfl, l2, g2⟩
theorem k81_openM {w : World} {base : Nat} {ok : Nat → Prop} {x : S81} {cs : List Value} (h : k81.M w base ok x cs) : ∃ v2, cs = [.string x.f0, .string x.f1, v2] ∧ k37.R 37 w base ok v2 x.f2 := by
  obtain ⟨_, _, rfl, rfl, ⟨_, _, rfl, rfl, ⟨v2, rfl, g2⟩⟩⟩ := h
  exact ⟨v2, rfl, g2⟩
theorem k81_mkM (w : World) (base : Nat) (ok : Nat → Prop) (x : S81) {v2 : Value} (g2 : k37.R 37 w base ok v2 x.f2) : k81.M w base ok x [.string x.f0, .string x.f1, v2] := ⟨[.string x.f0], [.string x.f1, v2], rfl, rfl, ⟨[.string x.f1], [v2], rfl, rfl, ⟨v2, rfl, g2⟩⟩⟩
theorem k81_openF {W : World} {ok : Nat → Prop} {x : S81} {cs : List Value} (h : Kd.FK k81 W ok x cs) : ∃ A2 c2, cs = [.string x.f0, .string x.f1, .slice A2 x.f2.length c2] ∧ x.f2.length ≤ c2 ∧ Kd.F k37 W ok A2 x.f2.length x.f2 := by
  obtain ⟨A2, c2, rfl, l2, _⟩ := k81_open (Kd.FK_now h)
  exact ⟨A2, c2, rfl, l2, (fun W' hW => by obtain ⟨A2_, c2_, he, l2_, g2_⟩ := k81_open (h W' hW); injection (Option.some.inj (show some (Value.slice A2 x.f2.length c2) = some (Value.slice A2_ x.f2.length c2_) from congrArg (fun l => l[2]?) he)) with ha_ _ _; rw [ha_]; exact g2_)⟩
def rd_T81 (xs : List S81) (i : Int) : S81 := xs.getD i.toNat z81
theorem at_T81 {w : World} {A : Option Addr} {n : Nat} {xs : List S81} (h : Kd.C k81 w A n xs) (i : Int) (h0 : 0 ≤ i) (h1 : i < n) : ∃ ad A2 c2, A = some ad ∧ w.cell? (ad.add (i.toNat * 3)) = some (.string (rd_T81 xs i).f0) ∧ w.cell? ⟨(ad.add (i.toNat * 3)).block, (ad.add (i.toNat * 3)).off + 1, none⟩ = some (.string (rd_T81 xs i).f1) ∧ w.cell? ⟨(ad.add (i.toNat * 3)).block, (ad.add (i.toNat * 3)).off + 2, none⟩ = some (.slice A2 (rd_T81 xs i).f2.length c2) ∧ (rd_T81 xs i).f2.length ≤ c2 ∧ k37.C w A2 (rd_T81 xs i).f2.length (rd_T81 xs i).f2 := by
  obtain ⟨ad, c, e, _, hK, hc0⟩ := Kd.C_get h z81 i h0 h1
  have hc : ∀ j u, c[j]? = some u → w.cell? (ad.add (i.toNat * 3 + j)) = some u := hc0
  obtain ⟨A2, c2, rfl, l2, g2⟩ := k81_open hK
  exact ⟨ad, A2, c2, e, hc 0 _ rfl, by rw [← add_field _ _ 1 (by omega)]; exact hc 1 _ rfl, by rw [← add_field _ _ 2 (by omega)]; exact hc 2 _ rfl, l2, g2⟩

structure S219 where
  f0 : Int
  f1 : Int
def z219 : S219 := ⟨(0 : Int), (0 : Int)⟩
def k219 : Kd S219 := Kd.iso (Kd.pair (Kd.int .i64) (Kd.int .i64)) (fun x : S219 => (x.f0, x.f1))
theorem k219_open {w : World} {x : S219} {cs : List Value} (h : k219.K w x cs) : cs = [.int .i64 x.f0, .int .i64 x.f1] := by
  obtain ⟨_, _, rfl, rfl, rfl⟩ := h
  exact rfl
def rd_T219 (xs : List S219) (i : Int) : S219 := xs.getD i.toNat z219
theorem at_T219 {w : World} {A : Option Addr} {n : Nat} {xs : List S219} (h : Kd.C k219 w A n xs) (i : Int) (h0 : 0 ≤ i) (h1 : i < n) : ∃ ad , A = some ad ∧ w.cell? (ad.add (i.toNat * 2)) = some (.int .i64 (rd_T219 xs i).f0) ∧ w.cell? ⟨(ad.add (i.toNat * 2)).block, (ad.add (i.toNat * 2)).off + 1, none⟩ = some (.int .i64 (rd_T219 xs i).f1) := by
  obtain ⟨ad, c, e, _, hK, hc0⟩ := Kd.C_get h z219 i h0 h1
  have hc : ∀ j u, c[j]? = some u → w.cell? (ad.add (i.toNat * 2 + j)) = some u := hc0
  obtain rfl := k219_open hK
  exact ⟨ad, e, hc 0 _ rfl, by rw [← add_field _ _ 1 (by omega)]; exact hc 1 _ rfl⟩

structure S137 where
  f0 : ByteArray
  f1 : ByteArray
  f2 : (List S219)
def z137 : S137 := ⟨(⟨#[]⟩ : ByteArray), (⟨#[]⟩ : ByteArray), ([] : List S219)⟩
def k137 : Kd S137 := Kd.iso (Kd.pair Kd.string (Kd.pair Kd.string (Kd.slice 219 k219))) (fun x : S137 => (x.f0, x.f1, x.f2))
theorem k137_open {w : World} {x : S137} {cs : List Value} (h : k137.K w x cs) : ∃ A2 c2, cs = [.string x.f0, .string x.f1, .slice A2 x.f2.length c2] ∧ x.f2.length ≤ c2 ∧ k219.C w A2 x.f2.length x.f2 := by
  obtain ⟨_, _, rfl, rfl, ⟨_, _, rfl, rfl, ⟨A2, c2, rfl, l2, g2⟩⟩⟩ := h
  exact ⟨A2, c2, rfl, l2, g2⟩
def rd_T137 (xs : List S137) (i : Int) : S137 := xs.getD i.toNat z137
theorem at_T137 {w : World} {A : Option Addr} {n : Nat} {xs : List S137} (h : Kd.C k137 w A n xs) (i : Int) (h0 : 0 ≤ i) (h1 : i < n) : ∃ ad A2 c2, A = some ad ∧ w.cell? (ad.add (i.toNat * 3)) = some (.string (rd_T137 xs i).f0) ∧ w.cell? ⟨(ad.add (i.toNat * 3)).block, (ad.add (i.toNat * 3)).off + 1, none⟩ = some (.string (rd_T137 xs i).f1) ∧ w.cell? ⟨(ad.add (i.toNat * 3)).block, (ad.add (i.toNat * 3)).off + 2, none⟩ = some (.slice A2 (rd_T137 xs i).f2.length c2) ∧ (rd_T137 xs i).f2.length ≤ c2 ∧ k219.C w A2 (rd_T137 xs i).f2.length (rd_T137 xs i).f2 := by
  obtain ⟨ad, c, e, _, hK, hc0⟩ := Kd.C_get h z137 i h0 h1
  have hc : ∀ j u, c[j]? = some u → w.cell? (ad.add (i.toNat * 3 + j)) = some u := hc0
  obtain ⟨A2, c2, rfl, l2, g2⟩ := k137_open hK
  exact ⟨ad, A2, c2, e, hc 0 _ rfl, by rw [← add_field _ _ 1 (by omega)]; exact hc 1 _ rfl, by rw [← add_field _ _ 2 (by omega)]; exact hc 2 _ rfl, l2, g2⟩

structure S144 where
  f0 : ByteArray
  f1 : Int
  f2 : Int
  f3 : Bool
def z144 : S144 := ⟨(⟨#[]⟩ : ByteArray), (0 : Int), (0 : Int), false⟩
def k144 : Kd S144 := Kd.iso (Kd.pair Kd.string (Kd.pair (Kd.int .i64) (Kd.pair (Kd.int .i64) Kd.bool))) (fun x : S144 => (x.f0, x.f1, x.f2, x.f3))
theorem k144_open {w : World} {x : S144} {cs : List Value} (h : k144.K w x cs) : cs = [.string x.f0, .int .i64 x.f1, .int .i64 x.f2, .bool x.f3] := by
  obtain ⟨_, _, rfl, rfl, ⟨_, _, rfl, rfl, ⟨_, _, rfl, rfl, rfl⟩⟩⟩ := h
  exact rfl
def rd_T144 (xs : List S144) (i : Int) : S144 := xs.getD i.toNat z144
theorem at_T144 {w : World} {A : Option Addr} {n : Nat} {xs : List S144} (h : Kd.C k144 w A n xs) (i : Int) (h0 : 0 ≤ i) (h1 : i < n) : ∃ ad , A = some ad ∧ w.cell? (ad.add (i.toNat * 4)) = some (.string (rd_T144 xs i).f0) ∧ w.cell? ⟨(ad.add (i.toNat * 4)).block, (ad.add (i.toNat * 4)).off + 1, none⟩ = some (.int .i64 (rd_T144 xs i).f1) ∧ w.cell? ⟨(ad.add (i.toNat * 4)).block, (ad.add (i.toNat * 4)).off + 2, none⟩ = some (.int .i64 (rd_T144 xs i).f2) ∧ w.cell? ⟨(ad.add (i.toNat * 4)).block, (ad.add (i.toNat * 4)).off + 3, none⟩ = some (.bool (rd_T144 xs i).f3) := by
  obtain ⟨ad, c, e, _, hK, hc0⟩ := Kd.C_get h z144 i h0 h1
  have hc : ∀ j u, c[j]? = some u → w.cell? (ad.add (i.toNat * 4 + j)) = some u := hc0
  obtain rfl := k144_open hK
  exact ⟨ad, e, hc 0 _ rfl, by rw [← add_field _ _ 1 (by omega)]; exact hc 1 _ rfl, by rw [← add_field _ _ 2 (by omega)]; exact hc 2 _ rfl, by rw [← add_field _ _ 3 (by omega)]; exact hc 3 _ rfl⟩

structure S147 where
  f0 : ByteArray
  f1 : Int
  f2 : Int
  f3 : Bool
def z147 : S147 := ⟨(⟨#[]⟩ : ByteArray), (0 : Int), (0 : Int), false⟩
def k147 : Kd S147 := Kd.iso (Kd.pair Kd.string (Kd.pair (Kd.int .i64) (Kd.pair (Kd.int .i64) Kd.bool))) (fun x : S147 => (x.f0, x.f1, x.f2, x.f3))
theorem k147_open {w : World} {x : S147} {cs : List Value} (h : k147.K w x cs) : cs = [.string x.f0, .int .i64 x.f1, .int .i64 x.f2, .bool x.f3] := by
  obtain ⟨_, _, rfl, rfl, ⟨_, _, rfl, rfl, ⟨_, _, rfl, rfl, rfl⟩⟩⟩ := h
  exact rfl
theorem k147_openM {w : World} {base : Nat} {ok : Nat → Prop} {x : S147} {cs : List Value} (h : k147.M w base ok x cs) : cs = [.string x.f0, .int .i64 x.f1, .int .i64 x.f2, .bool x.f3] := by
  obtain ⟨_, _, rfl, rfl, ⟨_, _, rfl, rfl, ⟨_, _, rfl, rfl, rfl⟩⟩⟩ := h
  exact rfl
theorem k147_mkM (w : World) (base : Nat) (ok : Nat → Prop) (x : S147)  : k147.M w base ok x [.string x.f0, .int .i64 x.f1, .int .i64 x.f2, .bool x.f3] := ⟨[.string x.f0], [.int .i64 x.f1, .int .i64 x.f2, .bool x.f3], rfl, rfl, ⟨[.int .i64 x.f1], [.int .i64 x.f2, .bool x.f3], rfl, rfl, ⟨[.int .i64 x.f2], [.bool x.f3], rfl, rfl, rfl⟩⟩⟩
def rd_T147 (xs : List S147) (i : Int) : S147 := xs.getD i.toNat z147
theorem at_T147 {w : World} {A : Option Addr} {n : Nat} {xs : List S147} (h : Kd.C k147 w A n xs) (i : Int) (h0 : 0 ≤ i) (h1 : i < n) : ∃ ad , A = some ad ∧ w.cell? (ad.add (i.toNat * 4)) = some (.string (rd_T147 xs i).f0) ∧ w.cell? ⟨(ad.add (i.toNat * 4)).block, (ad.add (i.toNat * 4)).off + 1, none⟩ = some (.int .i64 (rd_T147 xs i).f1) ∧ w.cell? ⟨(ad.add (i.toNat * 4)).block, (ad.add (i.toNat * 4)).off + 2, none⟩ = some (.int .i64 (rd_T147 xs i).f2) ∧ w.cell? ⟨(ad.add (i.toNat * 4)).block, (ad.add (i.toNat * 4)).off + 3, none⟩ = some (.bool (rd_T147 xs i).f3) := by
  obtain ⟨ad, c, e, _, hK, hc0⟩ := Kd.C_get h z147 i h0 h1
  have hc : ∀ j u, c[j]? = some u → w.cell? (ad.add (i.toNat * 4 + j)) = some u := hc0
  obtain rfl := k147_open hK
  exact ⟨ad, e, hc 0 _ rfl, by rw [← add_field _ _ 1 (by omega)]; exact hc 1 _ rfl, by rw [← add_field _ _ 2 (by omega)]; exact hc 2 _ rfl, by rw [← add_field _ _ 3 (by omega)]; exact hc 3 _ rfl⟩

structure S30 where
  f0 : ByteArray
  f1 : ByteArray
  f2 : Int
  f3 : Int
def z30 : S30 := ⟨(⟨#[]⟩ : ByteArray), (⟨#[]⟩ : ByteArray), (0 : Int), (0 : Int)⟩
structure S68 where
  f0 : ByteArray
  f1 : ByteArray
  f2 : Int
  f3 : Int
def z68 : S68 := ⟨(⟨#[]⟩ : ByteArray), (⟨#[]⟩ : ByteArray), (0 : Int), (0 : Int)⟩
structure S223 where
  f0 : ByteArray
  f1 : Int
  f2 : Int
def z223 : S223 := ⟨(⟨#[]⟩ : ByteArray), (0 : Int), (0 : Int)⟩
structure S239 where
  f0 : Int
  f1 : Int
  f2 : Int
def z239 : S239 := ⟨(0 : Int), (0 : Int), (0 : Int)⟩
structure S208 where
  f0 : Int
  f1 : Int
def z208 : S208 := ⟨(0 : Int), (0 : Int)⟩
structure S210 where
  f0 : Int
  f1 : Int
def z210 : S210 := ⟨(0 : Int), (0 : Int)⟩
structure S234 where
  f0 : Int
  f1 : Int
  f2 : Int
def z234 : S234 := ⟨(0 : Int), (0 : Int), (0 : Int)⟩
structure S204 where
  f0 : ByteArray
  f1 : Int
  f2 : Int
def z204 : S204 := ⟨(⟨#[]⟩ : ByteArray), (0 : Int), (0 : Int)⟩
structure S167 where
  f0 : Int
  f1 : Int
def z167 : S167 := ⟨(0 : Int), (0 : Int)⟩
structure S169 where
  f0 : Int
  f1 : Int
def z169 : S169 := ⟨(0 : Int), (0 : Int)⟩
end Go.Proofs.Ytplekidnlofioaa.Q
namespace Go.Proofs.Ytplekidnlofioaa.Q
open Go.RowKit Go.Proofs.YtplekidnlofioaaW.PrintWords Go.Proofs.YtplekidnlofioaaW.PrintLast Go.Proofs.YtplekidnlofioaaW.PrintMore
attribute [local go_sem] max2_int min2_int max_two min_two max_three min_three max_four min_four   -- for this text's walks alone
set_option linter.unusedVariables false
set_option linter.unusedSimpArgs false

/-! ### laws_szPointS: function 134 -/
def laws_szPointS.f (l0 : List (S219)) (a1 : Int) : Option (Int) := if (wrap64 (a1 - (l0.length : Int))) < 0 then (some (-1)) else (some (wrap64 (a1 - (l0.length : Int))))
set_option maxHeartbeats 8000000 in
set_option maxRecDepth 100000 in
theorem laws_szPointS.calls (A0 : Option Addr) (c0 : Nat) (l0 : List (S219)) (a1 : Int) (r : Int) (w : World) (hr0 : Kd.C k219 w A0 l0.length l0) (hc0 : l0.length ≤ c0) (h : laws_szPointS.f l0 a1 = some r) :
 Calls Try.prog 134 #[.slice A0 l0.length c0, .int .i64 a1] w fun e w' => e = .returned (.int .i64 r) ∧ Drawn0 w w' := by
 have HR0 := Aside0.mk hr0
 have HC0 := Aside0.mk hc0
 clear hr0 hc0
 have H : (if (wrap64 (a1 - (l0.length : Int))) < 0 then (some (-1)) else (some (wrap64 (a1 - (l0.length : Int))))) = some r := h
 clear h
 by_cases c3 : (wrap64 (a1 - (l0.length : Int))) < 0
 · rw [if_pos c3] at H
   have c3b0 : decide ((wrap64 (a1 - (l0.length : Int))) < 0) = true := decide_eq_true c3
   clear c3
   obtain rfl := Option.some.inj H
   go_enter Try.func134, Try.ntmps134
   go_wp2
   go_ret
   exact ⟨es, dr0⟩
 · rw [if_neg c3] at H
   have c3b0 : decide ((wrap64 (a1 - (l0.length : Int))) < 0) = false := decide_eq_false c3
   clear c3
   obtain rfl := Option.some.inj H
   go_enter Try.func134, Try.ntmps134
   go_wp2
   go_ret
   exact ⟨es, dr0⟩

end Go.Proofs.Ytplekidnlofioaa.Q
namespace Go.Proofs.Ytplekidnlofioaa.Q
open Go.RowKit Go.Proofs.YtplekidnlofioaaW.PrintWords Go.Proofs.YtplekidnlofioaaW.PrintLast Go.Proofs.YtplekidnlofioaaW.PrintMore
attribute [local go_sem] max2_int min2_int max_two min_two max_three min_three max_four min_four   -- for this text's walks alone
set_option linter.unusedVariables false
set_option linter.unusedSimpArgs false

/-! ### laws_szSeries: function 78 -/
def laws_szSeries.f (a0_0 : ByteArray) (a0_1 : ByteArray) (l0_2 : List (S219)) (a1 : Int) : Option (Int) := if (wrap64 (a1 - (a0_0.size : Int))) < 0 then (some (-1)) else (if (wrap64 ((wrap64 (a1 - (a0_0.size : Int))) - (a0_1.size : Int))) < 0 then (some (-1)) else ((laws_szPointS.f l0_2 (wrap64 ((wrap64 (a1 - (a0_0.size : Int))) - (a0_1.size : Int)))).bind fun t219 => (if t219 < 0 then (some (-1)) else (some t219))))
set_option maxHeartbeats 8000000 in
set_option maxRecDepth 100000 in
theorem laws_szSeries.calls (a0_0 : ByteArray) (a0_1 : ByteArray) (A0_2 : Option Addr) (c0_2 : Nat) (l0_2 : List (S219)) (a1 : Int) (r : Int) (w : World) (hr0_2 : Kd.C k219 w A0_2 l0_2.length l0_2) (hc0_2 : l0_2.length ≤ c0_2) (h : laws_szSeries.f a0_0 a0_1 l0_2 a1 = some r) :
 Calls Try.prog 78 #[.agg #[.string a0_0, .string a0_1, .slice A0_2 l0_2.length c0_2], .int .i64 a1] w fun e w' => e = .returned (.int .i64 r) ∧ Below w.heap.size w w' := by
 have hu137 := Try.underlying137
 have HR0_2 := Aside0.mk hr0_2
 have HC0_2 := Aside0.mk hc0_2
 clear hr0_2 hc0_2
 have HB := Aside0.mk (Below.refl w.heap.size w)
 have H : (if (wrap64 (a1 - (a0_0.size : Int))) < 0 then (some (-1)) else (if (wrap64 ((wrap64 (a1 - (a0_0.size : Int))) - (a0_1.size : Int))) < 0 then (some (-1)) else ((laws_szPointS.f l0_2 (wrap64 ((wrap64 (a1 - (a0_0.size : Int))) - (a0_1.size : Int)))).bind fun t219 => (if t219 < 0 then (some (-1)) else (some t219))))) = some r := h
 clear h
 by_cases c3 : (wrap64 (a1 - (a0_0.size : Int))) < 0
 · rw [if_pos c3] at H
   have c3b0 : decide ((wrap64 (a1 - (a0_0.size : Int))) < 0) = true := decide_eq_true c3
   clear c3
   obtain rfl := Option.some.inj H
   go_enter Try.func78, Try.ntmps78
   go_wp2_with (first | ((with_reducible refine gate_dst (N := 2) rfl ?_); refine bx 2 #[.string a0_0, .string a0_1, .slice A0_2 l0_2.length c0_2] 137 ?_; intro gb218 hg w4 hbox hb; have BK218 := ak hbox; have GW218 := gs hg bl; have GE218 := gs hg bl; replace HB := ak (below_step bl hb); clear hb hbox hg; obtain ⟨hcz5_0, hcz5_1, hcz5_2, hfz5_0, hfz5_1, hfz5_2⟩ := cz3 BK218))
   go_ret
   exact ⟨ew, bl1 GE218⟩
 · rw [if_neg c3] at H
   have c3b0 : decide ((wrap64 (a1 - (a0_0.size : Int))) < 0) = false := decide_eq_false c3
   clear c3
   by_cases c6 : (wrap64 ((wrap64 (a1 - (a0_0.size : Int))) - (a0_1.size : Int))) < 0
   · rw [if_pos c6] at H
     have c6b0 : decide ((wrap64 ((wrap64 (a1 - (a0_0.size : Int))) - (a0_1.size : Int))) < 0) = true := decide_eq_true c6
     clear c6
     obtain rfl := Option.some.inj H
     go_enter Try.func78, Try.ntmps78
     go_wp2_with (first | ((with_reducible refine gate_dst (N := 2) rfl ?_); refine bx 2 #[.string a0_0, .string a0_1, .slice A0_2 l0_2.length c0_2] 137 ?_; intro gb218 hg w7 hbox hb; have BK218 := ak hbox; have GW218 := gs hg bl; have GE218 := gs hg bl; replace HB := ak (below_step bl hb); clear hb hbox hg; obtain ⟨hcz8_0, hcz8_1, hcz8_2, hfz8_0, hfz8_1, hfz8_2⟩ := cz3 BK218))
     go_ret
     exact ⟨ew, bl1 GE218⟩
   · rw [if_neg c6] at H
     have c6b0 : decide ((wrap64 ((wrap64 (a1 - (a0_0.size : Int))) - (a0_1.size : Int))) < 0) = false := decide_eq_false c6
     clear c6
     obtain ⟨t219, A90, H⟩ := bo H
     have A9 := Aside0.mk A90
     clear A90
     by_cases c10 : t219 < 0
     · rw [if_pos c10] at H
       have c10b0 : decide (t219 < 0) = true := decide_eq_true c10
       clear c10
       obtain rfl := Option.some.inj H
       go_enter Try.func78, Try.ntmps78
       go_wp2_with (first | ((with_reducible refine gate_dst (N := 2) rfl ?_); refine bx 2 #[.string a0_0, .string a0_1, .slice A0_2 l0_2.length c0_2] 137 ?_; intro gb218 hg w11 hbox hb; have BK218 := ak hbox; have GW218 := gs hg bl; have GE218 := gs hg bl; replace HB := ak (below_step bl hb); clear hb hbox hg; obtain ⟨hcz12_0, hcz12_1, hcz12_2, hfz12_0, hfz12_1, hfz12_2⟩ := cz3 BK218) | ((with_reducible refine gate_callee (f := 134) rfl ?_); refine gl (some 22) Try.func134 #[.slice A0_2 l0_2.length c0_2, .int .i64 (wrap64 ((wrap64 (a1 - (a0_0.size : Int))) - (a0_1.size : Int)))] ?_; (with_reducible refine (laws_szPointS.calls _ _ l0_2 (wrap64 ((wrap64 (a1 - (a0_0.size : Int))) - (a0_1.size : Int))) t219 _ ?side1 ?side2 A9.out).mono ?_); (case side1 => exact cb HR0_2); (case side2 => exact HC0_2.out); rintro e w' ⟨rfl, ⟨nd, rfl⟩⟩; refine ⟨_, rfl, ?_⟩))
       go_ret
       exact ⟨ew, bl1 GE218⟩
     · rw [if_neg c10] at H
       have c10b0 : decide (t219 < 0) = false := decide_eq_false c10
       clear c10
       obtain rfl := Option.some.inj H
       go_enter Try.func78, Try.ntmps78
       go_wp2_with (first | ((with_reducible refine gate_dst (N := 2) rfl ?_); refine bx 2 #[.string a0_0, .string a0_1, .slice A0_2 l0_2.length c0_2] 137 ?_; intro gb218 hg w13 hbox hb; have BK218 := ak hbox; have GW218 := gs hg bl; have GE218 := gs hg bl; replace HB := ak (below_step bl hb); clear hb hbox hg; obtain ⟨hcz14_0, hcz14_1, hcz14_2, hfz14_0, hfz14_1, hfz14_2⟩ := cz3 BK218) | ((with_reducible refine gate_callee (f := 134) rfl ?_); refine gl (some 22) Try.func134 #[.slice A0_2 l0_2.length c0_2, .int .i64 (wrap64 ((wrap64 (a1 - (a0_0.size : Int))) - (a0_1.size : Int)))] ?_; (with_reducible refine (laws_szPointS.calls _ _ l0_2 (wrap64 ((wrap64 (a1 - (a0_0.size : Int))) - (a0_1.size : Int))) t219 _ ?side1 ?side2 A9.out).mono ?_); (case side1 => exact cb HR0_2); (case side2 => exact HC0_2.out); rintro e w' ⟨rfl, ⟨nd, rfl⟩⟩; refine ⟨_, rfl, ?_⟩))
       go_ret
       exact ⟨ew, bl1 GE218⟩

end Go.Proofs.Ytplekidnlofioaa.Q
namespace Go.Proofs.Ytplekidnlofioaa.Q
open Go.RowKit Go.Proofs.YtplekidnlofioaaW.PrintWords Go.Proofs.YtplekidnlofioaaW.PrintLast Go.Proofs.YtplekidnlofioaaW.PrintMore
attribute [local go_sem] max2_int min2_int max_two min_two max_three min_three max_four min_four   -- for this text's walks alone
set_option linter.unusedVariables false
set_option linter.unusedSimpArgs false

/-! ### laws_szSeriesS: function 21 -/
def laws_szSeriesS.l0 : Nat → List (S137) → Int → Int → Option (Int)
 | 0, _, _, _ => none
 | k + 1, x0, x1, x5 => if x5 < (x0.length : Int) then (if 0 ≤ x5 then ((laws_szSeries.f ((rd_T137 x0 x5).f0) ((rd_T137 x0 x5).f1) ((rd_T137 x0 x5).f2) x1).bind fun t221 => (if t221 < 0 then (some (-1)) else (laws_szSeriesS.l0 k x0 t221 (wrap64 (x5 + 1))))) else (none)) else (some x1)
def laws_szSeriesS.f (k : Nat) (l0 : List (S137)) (a1 : Int) : Option (Int) := if (wrap64 (a1 - (l0.length : Int))) < 0 then (some (-1)) else (laws_szSeriesS.l0 k l0 (wrap64 (a1 - (l0.length : Int))) 0)
theorem laws_szSeriesS.mono_l : ∀ k, (∀ y0 y1 y2, LeO (laws_szSeriesS.l0 k y0 y1 y2) (laws_szSeriesS.l0 (k + 1) y0 y1 y2))
 | 0 => fun _ _ _ r h => by simp [laws_szSeriesS.l0] at h
 | k + 1 => by
  have ih0 := laws_szSeriesS.mono_l k
  · intro y0 y1 y2
    unfold laws_szSeriesS.l0
    repeat' first
    | (with_reducible exact ih0 _ _ _)
    | (with_reducible exact LeO.refl _)
    | (with_reducible exact LeO.none _)
    | (with_reducible refine LeO.ite ?_ ?_)
    | (with_reducible refine LeO.bind ?_ (fun _ => ?_))
    | exact ih0 _ _ _
    | exact LeO.none _
    | refine LeO.ite ?_ ?_
    | refine LeO.bind ?_ (fun _ => ?_)
theorem laws_szSeriesS.mono : ∀ a0 a1 k, LeO (laws_szSeriesS.f k a0 a1) (laws_szSeriesS.f (k + 1) a0 a1) := by
 intro a0 a1 k
 have ih0 := laws_szSeriesS.mono_l k
 unfold laws_szSeriesS.f
 repeat' first
  | (with_reducible exact ih0 _ _ _)
  | (with_reducible exact LeO.refl _)
  | (with_reducible exact LeO.none _)
  | (with_reducible refine LeO.ite ?_ ?_)
  | (with_reducible refine LeO.bind ?_ (fun _ => ?_))
  | exact ih0 _ _ _
  | exact LeO.none _
  | refine LeO.ite ?_ ?_
  | refine LeO.bind ?_ (fun _ => ?_)
set_option maxHeartbeats 8000000 in
set_option maxRecDepth 100000 in
theorem laws_szSeriesS.calls (k : Nat) (A0 : Option Addr) (c0 : Nat) (l0 : List (S137)) (a1 : Int) (r : Int) (w : World) (hr0 : Kd.C k137 w A0 l0.length l0) (hc0 : l0.length ≤ c0) (h : laws_szSeriesS.f k l0 a1 = some r) :
 Calls Try.prog 21 #[.slice A0 l0.length c0, .int .i64 a1] w fun e w' => e = .returned (.int .i64 r) ∧ Below w.heap.size w w' := by
 have hu137 := Try.underlying137
 have HR0 := Aside0.mk hr0
 have HC0 := Aside0.mk hc0
 clear hr0 hc0
 have HB := Aside0.mk (Below.refl w.heap.size w)
 have H : (if (wrap64 (a1 - (l0.length : Int))) < 0 then (some (-1)) else (laws_szSeriesS.l0 k l0 (wrap64 (a1 - (l0.length : Int))) 0)) = some r := h
 clear h
 by_cases c3 : (wrap64 (a1 - (l0.length : Int))) < 0
 · rw [if_pos c3] at H
   have c3b0 : decide ((wrap64 (a1 - (l0.length : Int))) < 0) = true := decide_eq_true c3
   clear c3
   obtain rfl := Option.some.inj H
   go_enter Try.func21, Try.ntmps21
   go_wp2
   go_ret
   exact ⟨ew, bl⟩
 · rw [if_neg c3] at H
   have c3b0 : decide ((wrap64 (a1 - (l0.length : Int))) < 0) = false := decide_eq_false c3
   clear c3
   have H' := Aside0.mk H
   clear H
   go_enter Try.func21, Try.ntmps21
   go_wp2
   go_loopg [1, 5] k (fun kq v1 v5 w' => ∃ (x1_1 : Int) (x5_1 : Int), v1 = .int .i64 x1_1 ∧ v5 = .int .i64 x5_1 ∧ Aside0 (laws_szSeriesS.l0 kq l0 x1_1 x5_1 = some r) ∧ Aside0 (kq ≤ k) ∧ Aside0 (Below w.heap.size w w'))
   case atStart => exact ⟨(wrap64 (a1 - (l0.length : Int))), (0), es, es, H', ⟨Nat.le_refl _⟩, ⟨bl⟩⟩
   case round =>
    clear H'
    try clear c2
    try clear p2
    try clear c3
    try clear c3b0
    obtain ⟨x1_1, x5_1, rfl, rfl, HA, HK1, HB⟩ := hrel
    cases gk with
    | zero => exact absurd HA.out (by simp [laws_szSeriesS.l0])
    | succ k1 =>
     have H := HA.out
     clear HA
     simp only [laws_szSeriesS.l0] at H
     by_cases c4 : x5_1 < (l0.length : Int)
     · rw [if_pos c4] at H
       have c4b0 : decide (x5_1 < (l0.length : Int)) = true := decide_eq_true c4
       clear c4
       by_cases c5 : 0 ≤ x5_1
       · rw [if_pos c5] at H
         have c5b0 : decide (0 ≤ x5_1) = true := decide_eq_true c5
         clear c5
         obtain ⟨t221, A60, H⟩ := bo H
         have A6 := Aside0.mk A60
         clear A60
         by_cases c7 : t221 < 0
         · rw [if_pos c7] at H
           have c7b0 : decide (t221 < 0) = true := decide_eq_true c7
           clear c7
           obtain rfl := Option.some.inj H
           have p220 : 0 ≤ (x5_1 : Int) := of_decide_eq_true am
           have q220 : x5_1 < (l0.length : Int) := of_decide_eq_true am
           obtain ⟨ad220, A220_2, c220_2, e220, hx220_0, hx220_1, hx220_2, hl220_2, hi220_2⟩ := at_T137 HR0.out x5_1 p220 q220
           cases e220
           replace hx220_0 := cw hx220_0
           replace hx220_1 := cw hx220_1
           replace hx220_2 := cw hx220_2
           have HR220_2 := Aside0.mk hi220_2
           have HC220_2 := Aside0.mk hl220_2
           clear hi220_2 hl220_2
           replace p220 := eq_true p220
           replace q220 := eq_true q220
           go_wp2_with (first | ((with_reducible refine gate_callee (f := 78) rfl ?_); refine gl (some 23) Try.func78 #[.agg #[.string ((rd_T137 l0 x5_1).f0), .string ((rd_T137 l0 x5_1).f1), .slice A220_2 ((rd_T137 l0 x5_1).f2).length c220_2], .int .i64 x1_1] ?_; (with_reducible refine (laws_szSeries.calls ((rd_T137 l0 x5_1).f0) ((rd_T137 l0 x5_1).f1) _ _ ((rd_T137 l0 x5_1).f2) x1_1 t221 _ ?side1 ?side2 A6.out).mono ?_); (case side1 => exact cb HR220_2); (case side2 => exact HC220_2.out); rintro e w8 ⟨rfl, hb⟩; refine ⟨_, rfl, ?_⟩; replace HB := ak (below_step bl hb); (try clear hb); (try clear hb2); (try clear hk); (try clear hi)))
           go_ret
           exact ⟨ew, bl⟩
         · rw [if_neg c7] at H
           have c7b0 : decide (t221 < 0) = false := decide_eq_false c7
           clear c7
           have H' := Aside0.mk H
           clear H
           have p220 : 0 ≤ (x5_1 : Int) := of_decide_eq_true am
           have q220 : x5_1 < (l0.length : Int) := of_decide_eq_true am
           obtain ⟨ad220, A220_2, c220_2, e220, hx220_0, hx220_1, hx220_2, hl220_2, hi220_2⟩ := at_T137 HR0.out x5_1 p220 q220
           cases e220
           replace hx220_0 := cw hx220_0
           replace hx220_1 := cw hx220_1
           replace hx220_2 := cw hx220_2
           have HR220_2 := Aside0.mk hi220_2
           have HC220_2 := Aside0.mk hl220_2
           clear hi220_2 hl220_2
           replace p220 := eq_true p220
           replace q220 := eq_true q220
           go_wp2_with (first | ((with_reducible refine gate_callee (f := 78) rfl ?_); refine gl (some 23) Try.func78 #[.agg #[.string ((rd_T137 l0 x5_1).f0), .string ((rd_T137 l0 x5_1).f1), .slice A220_2 ((rd_T137 l0 x5_1).f2).length c220_2], .int .i64 x1_1] ?_; (with_reducible refine (laws_szSeries.calls ((rd_T137 l0 x5_1).f0) ((rd_T137 l0 x5_1).f1) _ _ ((rd_T137 l0 x5_1).f2) x1_1 t221 _ ?side1 ?side2 A6.out).mono ?_); (case side1 => exact cb HR220_2); (case side2 => exact HC220_2.out); rintro e w9 ⟨rfl, hb⟩; refine ⟨_, rfl, ?_⟩; replace HB := ak (below_step bl hb); (try clear hb); (try clear hb2); (try clear hk); (try clear hi)))
           go_roundg k1
           case measure => have := HK1.out; omega
           case rel => exact ⟨(t221), (wrap64 (x5_1 + 1)), es, es, H', ⟨kp⟩, ⟨bl⟩⟩
       · rw [if_neg c5] at H
         exact absurd H (by simp)
     · rw [if_neg c4] at H
       have c4b0 : decide (x5_1 < (l0.length : Int)) = false := decide_eq_false c4
       clear c4
       obtain rfl := Option.some.inj H
       go_wp2
       go_ret
       exact ⟨ew, bl⟩

end Go.Proofs.Ytplekidnlofioaa.Q
namespace Go.Proofs.Ytplekidnlofioaa.Q
open Go.RowKit Go.Proofs.YtplekidnlofioaaW.PrintWords Go.Proofs.YtplekidnlofioaaW.PrintLast Go.Proofs.YtplekidnlofioaaW.PrintMore
attribute [local go_sem] max2_int min2_int max_two min_two max_three min_three max_four min_four   -- for this text's walks alone
set_option linter.unusedVariables false
set_option linter.unusedSimpArgs false

/-! ### laws_toPoint: function 180 -/
def laws_toPoint.f (a0_0 : Int) (a0_1 : Int) : Option (Int × Int) := some (a0_0, a0_1)
set_option maxHeartbeats 8000000 in
set_option maxRecDepth 100000 in
theorem laws_toPoint.calls (a0_0 : Int) (a0_1 : Int) (r1 : Int) (r2 : Int) (w : World) (h : laws_toPoint.f a0_0 a0_1 = some (r1, r2)) :
 Calls Try.prog 180 #[.agg #[.int .i64 a0_0, .int .i64 a0_1]] w fun e w' => e = .returned (.agg #[.int .i64 r1, .int .i64 r2]) ∧ Below w.heap.size w w' := by
 have hu219 := Try.underlying219
 have hu37 := Try.underlying37
 have HB := Aside0.mk (Below.refl w.heap.size w)
 have H : (some (a0_0, a0_1)) = some (r1, r2) := h
 clear h
 simp only [Option.some.injEq, Prod.mk.injEq] at H
 obtain ⟨rfl, rfl⟩ := H
 go_enter Try.func180, Try.ntmps180
 go_wp2_with (first | ((with_reducible refine gate_dst (N := 1) rfl ?_); refine bx 1 #[.int .i64 a0_0, .int .i64 a0_1] 219 ?_; intro gb264 hg w2 hbox hb; have BK264 := ak hbox; have GW264 := gs hg bl; have GE264 := gs hg bl; replace HB := ak (below_step bl hb); clear hb hbox hg) | ((with_reducible refine gate_dst (N := 2) rfl ?_); refine bx 2 #[.int .i64 0, .int .i64 0] 37 ?_; intro gb265 hg w3 hbox hb; have BK265 := ak hbox; have GW265 := gs hg (bl1 GE264); have GE265 := gs hg (bl1 GE264); replace HB := ak (below_step (bl1 GE264) hb); have NB264_265 := nl hg BK264; have NB265_264 := ng hg BK264; replace BK264 := bb BK264 hb; clear hb hbox hg) | ((with_reducible refine gate_dst (N := 3) rfl ?_); refine bx 3 #[.int .i64 0, .int .i64 0] 37 ?_; intro gb266 hg w4 hbox hb; have BK266 := ak hbox; have GW266 := gs hg (bl2 GE264 GE265); have GE266 := gs hg (bl2 GE264 GE265); replace HB := ak (below_step (bl2 GE264 GE265) hb); have NB264_266 := nl hg BK264; have NB266_264 := ng hg BK264; replace BK264 := bb BK264 hb; have NB265_266 := nl hg BK265; have NB266_265 := ng hg BK265; replace BK265 := bb BK265 hb; clear hb hbox hg; have hnb5 := NB264_265.out; have hnc5 := NB265_264.out; have hnb6 := NB264_266.out; have hnc6 := NB266_264.out; obtain ⟨hcz7_0, hcz7_1, hfz7_0, hfz7_1⟩ := cz2 BK264; have hnb8 := NB266_265.out; have hnc8 := NB265_266.out; obtain ⟨hcz9_0, hcz9_1, hfz9_0, hfz9_1⟩ := cz2 BK266; obtain ⟨hcz10_0, hcz10_1, hfz10_0, hfz10_1⟩ := cz2 BK265))
 refine bodyPost_ret (results_cell_row rfl _ _ gb265 37 #[.int .i64 a0_0, .int .i64 a0_1] (0, 0) _ rfl (by (with_reducible repeat (first | refine blk_drewN ?_ _ | refine blk_drew ?_ | refine blk_alloc ?_ _)); refine blk_put (cs := #[.int .i64 a0_0, .int .i64 0]) ?_ 1 _ rfl; (with_reducible repeat (first | refine blk_drewN ?_ _ | refine blk_drew ?_ | refine blk_alloc ?_ _)); refine blk_put (cs := #[.int .i64 0, .int .i64 0]) ?_ 0 _ rfl; (with_reducible repeat (first | refine blk_drewN ?_ _ | refine blk_drew ?_ | refine blk_alloc ?_ _)); refine blk_far ?_ NB265_266.out _; (with_reducible repeat (first | refine blk_drewN ?_ _ | refine blk_drew ?_ | refine blk_alloc ?_ _)); refine blk_far ?_ NB265_266.out _; (with_reducible repeat (first | refine blk_drewN ?_ _ | refine blk_drew ?_ | refine blk_alloc ?_ _)); exact BK265.out) Try.underlying37 rfl (by kernel_rfl)) rfl ?_
 exact ⟨ew, bl3 GE264 GE265 GE266⟩

end Go.Proofs.Ytplekidnlofioaa.Q
namespace Go.Proofs.Ytplekidnlofioaa.Q
open Go.RowKit Go.Proofs.YtplekidnlofioaaW.PrintWords Go.Proofs.YtplekidnlofioaaW.PrintLast Go.Proofs.YtplekidnlofioaaW.PrintMore
attribute [local go_sem] max2_int min2_int max_two min_two max_three min_three max_four min_four   -- for this text's walks alone
set_option linter.unusedVariables false
set_option linter.unusedSimpArgs false

/-! ### laws_toPointS: function 135 -/
def laws_toPointS.l0 : Nat → List (S219) → List (S37) → Int → Option ((List (S37)))
 | 0, _, _, _ => none
 | k + 1, x0, x3, x4 => if x4 < (x0.length : Int) then (if 0 ≤ x4 then ((laws_toPoint.f ((rd_T219 x0 x4).f0) ((rd_T219 x0 x4).f1)).bind fun bt271 => (if x4 < (x3.length : Int) then (laws_toPointS.l0 k x0 (x3.set (x4 : Int).toNat (⟨bt271.1, bt271.2⟩ : S37)) (wrap64 (x4 + 1))) else (none))) else (none)) else (some x3)
def laws_toPointS.f (k : Nat) (l0 : List (S219)) : Option ((List (S37))) := if 0 ≤ (l0.length : Int) then (if ((l0.length : Int) : Int).toNat ≤ 17592186044416 then (laws_toPointS.l0 k l0 (List.replicate ((l0.length : Int) : Int).toNat z37) 0) else (none)) else (none)
theorem laws_toPointS.mono_l : ∀ k, (∀ y0 y1 y2, LeO (laws_toPointS.l0 k y0 y1 y2) (laws_toPointS.l0 (k + 1) y0 y1 y2))
 | 0 => fun _ _ _ r h => by simp [laws_toPointS.l0] at h
 | k + 1 => by
  have ih0 := laws_toPointS.mono_l k
  · intro y0 y1 y2
    unfold laws_toPointS.l0
    repeat' first
    | (with_reducible exact ih0 _ _ _)
    | (with_reducible exact LeO.refl _)
    | (with_reducible exact LeO.none _)
    | (with_reducible refine LeO.ite ?_ ?_)
    | (with_reducible refine LeO.bind ?_ (fun _ => ?_))
    | exact ih0 _ _ _
    | exact LeO.none _
    | refine LeO.ite ?_ ?_
    | refine LeO.bind ?_ (fun _ => ?_)
theorem laws_toPointS.mono : ∀ a0 k, LeO (laws_toPointS.f k a0) (laws_toPointS.f (k + 1) a0) := by
 intro a0 k
 have ih0 := laws_toPointS.mono_l k
 unfold laws_toPointS.f
 repeat' first
  | (with_reducible exact ih0 _ _ _)
  | (with_reducible exact LeO.refl _)
  | (with_reducible exact LeO.none _)
  | (with_reducible refine LeO.ite ?_ ?_)
  | (with_reducible refine LeO.bind ?_ (fun _ => ?_))
  | exact ih0 _ _ _
  | exact LeO.none _
  | refine LeO.ite ?_ ?_
  | refine LeO.bind ?_ (fun _ => ?_)
set_option maxHeartbeats 8000000 in
set_option maxRecDepth 100000 in
theorem laws_toPointS.calls (k : Nat) (A0 : Option Addr) (c0 : Nat) (l0 : List (S219)) (r : List (S37)) (w : World) (hr0 : Kd.C k219 w A0 l0.length l0) (hc0 : l0.length ≤ c0) (h : laws_toPointS.f k l0 = some r) :
 Calls Try.prog 135 #[.slice A0 l0.length c0] w fun e w' => ∃ v0_ : Value, e = .returned (v0_) ∧ Kd.R k37 37 w' w.heap.size (fun _ => True) v0_ r ∧ Below w.heap.size w w' := by
 have hu219 := Try.underlying219
 have hu37 := Try.underlying37
 have HR0 := Aside0.mk hr0
 have HC0 := Aside0.mk hc0
 clear hr0 hc0
 have HB := Aside0.mk (Below.refl w.heap.size w)
 have H : (if 0 ≤ (l0.length : Int) then (if ((l0.length : Int) : Int).toNat ≤ 17592186044416 then (laws_toPointS.l0 k l0 (List.replicate ((l0.length : Int) : Int).toNat z37) 0) else (none)) else (none)) = some r := h
 clear h
 by_cases c2 : 0 ≤ (l0.length : Int)
 · rw [if_pos c2] at H
   have c2b0 := eq_true c2
   have c2b1 : decide (0 ≤ (l0.length : Int)) = true := decide_eq_true c2
   clear c2
   by_cases c3 : ((l0.length : Int) : Int).toNat ≤ 17592186044416
   · rw [if_pos c3] at H
     have c3b0 := eq_true c3
     have c3b1 : decide (((l0.length : Int) : Int).toNat ≤ 17592186044416) = true := decide_eq_true c3
     clear c3
     obtain ⟨y267, hy267⟩ : ∃ y_ : List (S37), y_ = (List.replicate ((l0.length : Int) : Int).toNat z37) := ⟨_, rfl⟩
     replace H : (laws_toPointS.l0 k l0 y267 0) = some r := by first | (rw [hy267]; with_reducible exact H) | (have H2_ := (Option.bind_some _ _).symm.trans H; rw [hy267]; with_reducible exact H2_) | (have H2_ := (Option.bind_some _ _).symm.trans H; with_reducible exact H2_) | with_reducible exact H | (rw [hy267]; exact H) | exact H
     have Ny267 := Aside0.mk hy267
     clear hy267
     have H' := Aside0.mk H
     clear H
     go_enter Try.func135, Try.ntmps135
     go_wp2_with (first | ((with_reducible refine gate_dst (N := 7) rfl ?_); refine Kd.R_make k37 _ 37 rfl (N := 7) rfl 31 _ _ rfl (l0.length : Int) rfl rfl Try.underlying31 (.agg #[(.int .i64 0), (.int .i64 0)]) 16 info37 rfl (by decide) (by omega) z37 (ok := fun _ => True) (okp := fun _ => True) (k37_mkM _ _ _ z37 ) (fun _ hk => hk) trivial (of_decide_eq_true am) (Nat.le_trans (Nat.mul_le_mul_right _ (of_decide_eq_true am : (l0.length : Int).toNat ≤ 17592186044416)) (by omega)) (Below.refl _ _) (Nat.le_refl _) ?_; intro v268 w4 ho5 hb hg_ hnew_; clear hg_ hnew_; (first | rw [← Ny267.out] at ho5 | (simp only [Int.reduceToNat] at ho5; rw [← Ny267.out] at ho5)); have HO269 := ak (Kd.R_lower ho5 (below_size bl)); replace HB := ak (below_step bl hb); clear hb ho5))
     go_loopg [4] k (fun kq v4 w' => ∃ (x3_1 : List (S37)) (x4_1 : Int), v4 = .int .i64 x4_1 ∧ Aside0 (laws_toPointS.l0 kq l0 x3_1 x4_1 = some r) ∧ Aside0 (kq ≤ k) ∧ Aside0 (Kd.R k37 37 w' w.heap.size (fun _ => True) v268 x3_1) ∧ Aside0 (Below w.heap.size w w'))
     case atStart => exact ⟨(y267), (0), es, H', ⟨Nat.le_refl _⟩, ⟨kr HO269⟩, ⟨bl⟩⟩
     case round =>
      clear H'
      try clear c1
      try clear c2
      try clear c2b0
      try clear c2b1
      try clear p2
      try clear c3
      try clear c3b0
      try clear c3b1
      obtain ⟨x3_1, x4_1, rfl, HA, HK1, HO_3, HB⟩ := hrel
      cases gk with
      | zero => exact absurd HA.out (by simp [laws_toPointS.l0])
      | succ k1 =>
       have H := HA.out
       clear HA
       simp only [laws_toPointS.l0] at H
       by_cases c6 : x4_1 < (l0.length : Int)
       · rw [if_pos c6] at H
         have c6b0 : decide (x4_1 < (l0.length : Int)) = true := decide_eq_true c6
         clear c6
         by_cases c7 : 0 ≤ x4_1
         · rw [if_pos c7] at H
           have c7b0 : decide (0 ≤ x4_1) = true := decide_eq_true c7
           clear c7
           replace H := Option.bind_eq_some_iff.mp H
           obtain ⟨⟨t271, t272⟩, A80, H⟩ := H
           replace H : (if x4_1 < (x3_1.length : Int) then (laws_toPointS.l0 k1 l0 (x3_1.set (x4_1 : Int).toNat (⟨t271, t272⟩ : S37)) (wrap64 (x4_1 + 1))) else (none)) = some r := H
           have A8 := Aside0.mk A80
           clear A80
           by_cases c9 : x4_1 < (x3_1.length : Int)
           · rw [if_pos c9] at H
             have c9b0 : decide (x4_1 < (x3_1.length : Int)) = true := decide_eq_true c9
             clear c9
             obtain ⟨y273, hy273⟩ : ∃ y_ : List (S37), y_ = (x3_1.set (x4_1 : Int).toNat (⟨t271, t272⟩ : S37)) := ⟨_, rfl⟩
             replace H : (laws_toPointS.l0 k1 l0 y273 (wrap64 (x4_1 + 1))) = some r := by first | (rw [hy273]; with_reducible exact H) | (have H2_ := (Option.bind_some _ _).symm.trans H; rw [hy273]; with_reducible exact H2_) | (have H2_ := (Option.bind_some _ _).symm.trans H; with_reducible exact H2_) | with_reducible exact H | (rw [hy273]; exact H) | exact H
             have Ny273 := Aside0.mk hy273
             clear hy273
             have H' := Aside0.mk H
             clear H
             have p270 : 0 ≤ (x4_1 : Int) := of_decide_eq_true am
             have q270 : x4_1 < (l0.length : Int) := of_decide_eq_true am
             obtain ⟨ad270, e270, hx270_0, hx270_1⟩ := at_T219 HR0.out x4_1 p270 q270
             cases e270
             replace hx270_0 := cw hx270_0
             replace hx270_1 := cw hx270_1
             replace p270 := eq_true p270
             replace q270 := eq_true q270
             go_wp2_with (first | ((with_reducible refine gate_callee (f := 180) rfl ?_); refine gl (some 20) Try.func180 #[.agg #[.int .i64 ((rd_T219 l0 x4_1).f0), .int .i64 ((rd_T219 l0 x4_1).f1)]] ?_; (with_reducible refine (laws_toPoint.calls ((rd_T219 l0 x4_1).f0) ((rd_T219 l0 x4_1).f1) t271 t272 _ A8.out).mono ?_); rintro e w11 ⟨rfl, hb⟩; refine ⟨_, rfl, ?_⟩; replace HO_3 := ak (Kd.R_below (kr HO_3) hb); replace HB := ak (below_step bl hb); (try clear hb); (try clear hb2); (try clear hk); (try clear hi); have p10 : 0 ≤ (x4_1 : Int) := of_decide_eq_true am; have q10 : (x4_1 : Int) < ((x3_1.length : Int) : Int) := of_decide_eq_true am; obtain ⟨go10, co10, eo10, gb10, gl10, cl10, HG10⟩ := Kd.R_form HO_3.out (by omega); (first | cases eo10 | (injection eo10 with ea_ en_ ec_; (first | subst ea_ | (injection ea_ with ea_; subst ea_)); subst ec_; clear en_)); have GB10 := Aside0.mk gb10; have GG10 := Aside0.mk HG10; clear gb10 gl10 HG10; obtain ⟨ce10, hcl10, hM10, hcc10, hfr10⟩ := Kd.R_elem HO_3.out z37 (x4_1 : Int) p10 q10; obtain rfl := k37_openM hM10; have hx10_0 : w11.cell? ⟨go10, (x4_1 : Int).toNat * 2, none⟩ = some (.int .i64 ((rd_T37 x3_1 x4_1).f0)) := hcc10 0 _ rfl; have hx10_1 : w11.cell? ⟨go10, (x4_1 : Int).toNat * 2 + 1, none⟩ = some (.int .i64 ((rd_T37 x3_1 x4_1).f1)) := hcc10 1 _ rfl; have hf10_0 : w11.frozen? ⟨go10, (x4_1 : Int).toNat * 2, none⟩ = false := hfr10 0; have hf10_1 : w11.frozen? ⟨go10, (x4_1 : Int).toNat * 2 + 1, none⟩ = false := hfr10 1; clear hcl10 hcc10 hfr10 hM10; replace p10 := eq_true p10; replace q10 := eq_true q10; have HX12 := Aside0.mk (show Kd.R k37 37 w11 w.heap.size (fun _ => True) (.slice (some ⟨go10, 0, none⟩) x3_1.length co10) x3_1 from (kr HO_3)); obtain ⟨ce12, hcl12, hM12, hcc12, hfr12⟩ := Kd.R_elem HX12.out z37 (x4_1 : Int) (of_decide_eq_true am) (by have h_ : (x4_1 : Int) < ((x3_1.length : Int) : Int) := of_decide_eq_true am; first | exact h_ | (have e_ := (Kd.R_reads' HO_3.out).1; omega) | simpa using h_); obtain rfl := k37_openM hM12; have HP12 := Kd.R_seg HX12.out (x4_1 : Int) (of_decide_eq_true am) (by have h_ : (x4_1 : Int) < ((x3_1.length : Int) : Int) := of_decide_eq_true am; first | exact h_ | (have e_ := (Kd.R_reads' HO_3.out).1; omega) | simpa using h_) (seg := [.int .i64 t271, .int .i64 t272]) (j := 0) hcl12 hcc12 (show 2 ≤ 2 from by decide) (x' := (⟨t271, t272⟩ : S37)) (k37_mkM _ _ _ (⟨t271, t272⟩ : S37) ) (fun _ hk => hk); have hx12_0 := hcc12 0 _ rfl; (try simp only [show (k37).sz = 2 from rfl, Nat.mul_one, Nat.add_zero] at hx12_0); have hf12_0 := hfr12 0; (try simp only [show (k37).sz = 2 from rfl, Nat.mul_one, Nat.add_zero] at hf12_0); have hx12_1 := hcc12 1 _ rfl; (try simp only [show (k37).sz = 2 from rfl, Nat.mul_one, Nat.add_zero] at hx12_1); have hf12_1 := hfr12 1; (try simp only [show (k37).sz = 2 from rfl, Nat.mul_one, Nat.add_zero] at hf12_1); clear hcl12 hcc12 hfr12 hM12) | ((with_reducible refine gate_store (t := 37) (p := 21) rfl ?_); refine store_event (t := 37) (p := 21) (v := ?vo_w13) (w1 := ((w11.setCell ⟨go10, (x4_1 : Int).toNat * 2, none⟩ (.int .i64 t271)).setCell ⟨go10, (x4_1 : Int).toNat * 2 + 1, none⟩ (.int .i64 t272))) ?hg ?ho ?hn ?hr ?_; (case ho => rfl); (case hg => rfl); (case hn => rfl); (case hr => first | (go_simp; done) | (go_simp; rfl)); intro w13 hw; have hg : w11.grownBy w13 (some go10) := (by rw [hw]; exact HP12.2); have hp_ : Kd.R k37 37 w13 w.heap.size (fun _ => True) (.slice (some ⟨go10, 0, none⟩) x3_1.length co10) y273 := (by rw [hw, Ny273.out]; exact HP12.1); clear HP12; replace HO_3 := ak hp_; replace HB := ak (by rw [hw]; exact below_set (below_set (HB.out) GB10.out) GB10.out : Below w.heap.size w w13); clear hg hw hp_))
             go_roundg k1
             case measure => have := HK1.out; omega
             case rel => exact ⟨(y273), (wrap64 (x4_1 + 1)), es, H', ⟨kp⟩, ⟨kr HO_3⟩, ⟨bl⟩⟩
           · rw [if_neg c9] at H
             exact absurd H (by simp)
         · rw [if_neg c7] at H
           exact absurd H (by simp)
       · rw [if_neg c6] at H
         have c6b0 : decide (x4_1 < (l0.length : Int)) = false := decide_eq_false c6
         clear c6
         obtain rfl := Option.some.inj H
         go_wp2
         go_ret
         exact ⟨_, ew, kr HO_3, bl⟩
   · rw [if_neg c3] at H
     exact absurd H (by simp)
 · rw [if_neg c2] at H
   exact absurd H (by simp)

end Go.Proofs.Ytplekidnlofioaa.Q
namespace Go.Proofs.Ytplekidnlofioaa.Q
open Go.RowKit Go.Proofs.YtplekidnlofioaaW.PrintWords Go.Proofs.YtplekidnlofioaaW.PrintLast Go.Proofs.YtplekidnlofioaaW.PrintMore
attribute [local go_sem] max2_int min2_int max_two min_two max_three min_three max_four min_four   -- for this text's walks alone
set_option linter.unusedVariables false
set_option linter.unusedSimpArgs false

/-! ### laws_toSeries: function 80 -/
def laws_toSeries.f (k : Nat) (a0_0 : ByteArray) (a0_1 : ByteArray) (l0_2 : List (S219)) : Option (ByteArray × ByteArray × (List (S37))) := (laws_toPointS.f k l0_2).bind fun t277 => (some (a0_0, a0_1, t277))
theorem laws_toSeries.mono : ∀ a0 a1 a2 k, LeO (laws_toSeries.f k a0 a1 a2) (laws_toSeries.f (k + 1) a0 a1 a2) := by
 intro a0 a1 a2 k
 unfold laws_toSeries.f
 repeat' first
  | (with_reducible exact laws_toPointS.mono _ _)
  | (with_reducible exact LeO.refl _)
  | (with_reducible exact LeO.none _)
  | (with_reducible refine LeO.ite ?_ ?_)
  | (with_reducible refine LeO.bind ?_ (fun _ => ?_))
  | exact laws_toPointS.mono _ _
  | exact LeO.none _
  | refine LeO.ite ?_ ?_
  | refine LeO.bind ?_ (fun _ => ?_)
set_option maxHeartbeats 8000000 in
set_option maxRecDepth 100000 in
theorem laws_toSeries.calls (k : Nat) (a0_0 : ByteArray) (a0_1 : ByteArray) (A0_2 : Option Addr) (c0_2 : Nat) (l0_2 : List (S219)) (r1 : ByteArray) (r2 : ByteArray) (r3 : List (S37)) (w : World) (hr0_2 : Kd.C k219 w A0_2 l0_2.length l0_2) (hc0_2 : l0_2.length ≤ c0_2) (h : laws_toSeries.f k a0_0 a0_1 l0_2 = some (r1, r2, r3)) :
 Calls Try.prog 80 #[.agg #[.string a0_0, .string a0_1, .slice A0_2 l0_2.length c0_2]] w fun e w' => ∃ v2_ : Value, e = .returned (.agg #[.string r1, .string r2, v2_]) ∧ Kd.R k37 37 w' w.heap.size (fun _ => True) v2_ r3 ∧ Below w.heap.size w w' := by
 have hu137 := Try.underlying137
 have hu81 := Try.underlying81
 have HR0_2 := Aside0.mk hr0_2
 have HC0_2 := Aside0.mk hc0_2
 clear hr0_2 hc0_2
 have HB := Aside0.mk (Below.refl w.heap.size w)
 have H : ((laws_toPointS.f k l0_2).bind fun t277 => (some (a0_0, a0_1, t277))) = some (r1, r2, r3) := h
 clear h
 obtain ⟨t277, A20, H⟩ := bo H
 have A2 := Aside0.mk A20
 clear A20
 simp only [Option.some.injEq, Prod.mk.injEq] at H
 obtain ⟨rfl, rfl, rfl⟩ := H
 go_enter Try.func80, Try.ntmps80
 go_wp2_with (first | ((with_reducible refine gate_dst (N := 1) rfl ?_); refine bx 1 #[.string a0_0, .string a0_1, .slice A0_2 l0_2.length c0_2] 137 ?_; intro gb274 hg w3 hbox hb; have BK274 := ak hbox; have GW274 := gs hg bl; have GE274 := gs hg bl; replace HB := ak (below_step bl hb); clear hb hbox hg) | ((with_reducible refine gate_dst (N := 2) rfl ?_); refine bx 2 #[.string (⟨#[]⟩ : ByteArray), .string (⟨#[]⟩ : ByteArray), .slice none 0 0] 81 ?_; intro gb275 hg w4 hbox hb; have BK275 := ak hbox; have GW275 := gs hg (bl1 GE274); have GE275 := gs hg (bl1 GE274); replace HB := ak (below_step (bl1 GE274) hb); have NB274_275 := nl hg BK274; have NB275_274 := ng hg BK274; replace BK274 := bb BK274 hb; clear hb hbox hg) | ((with_reducible refine gate_dst (N := 3) rfl ?_); refine bx 3 #[.string (⟨#[]⟩ : ByteArray), .string (⟨#[]⟩ : ByteArray), .slice none 0 0] 81 ?_; intro gb276 hg w5 hbox hb; have BK276 := ak hbox; have GW276 := gs hg (bl2 GE274 GE275); have GE276 := gs hg (bl2 GE274 GE275); replace HB := ak (below_step (bl2 GE274 GE275) hb); have NB274_276 := nl hg BK274; have NB276_274 := ng hg BK274; replace BK274 := bb BK274 hb; have NB275_276 := nl hg BK275; have NB276_275 := ng hg BK275; replace BK275 := bb BK275 hb; clear hb hbox hg; have hnb6 := NB274_275.out; have hnc6 := NB275_274.out; have hnb7 := NB274_276.out; have hnc7 := NB276_274.out; obtain ⟨hcz8_0, hcz8_1, hcz8_2, hfz8_0, hfz8_1, hfz8_2⟩ := cz3 BK274; have hnb9 := NB276_275.out; have hnc9 := NB275_276.out; obtain ⟨hcz10_0, hcz10_1, hcz10_2, hfz10_0, hfz10_1, hfz10_2⟩ := cz3 BK276) | ((with_reducible refine gate_callee (f := 135) rfl ?_); refine gl (some 12) Try.func135 #[.slice A0_2 l0_2.length c0_2] ?_; (with_reducible refine (laws_toPointS.calls k _ _ l0_2 t277 _ ?side1 ?side2 A2.out).mono ?_); (case side1 => exact Kd.C_below HR0_2.out (bl3 GE274 GE275 GE276)); (case side2 => exact HC0_2.out); rintro e w11 ⟨v278, rfl, ho0, hb⟩; refine ⟨_, rfl, ?_⟩; have HO279 := ak (Kd.R_lower ho0 (below_size (bl3 GE274 GE275 GE276))); replace BK274 := bf1 BK274 NB274_276 hb; replace BK275 := bf1 BK275 NB275_276 hb; replace BK276 := ak (blk_below (g := gb276) (o := .cells #[.string a0_0, .string a0_1, .slice none 0 0] 81 (0, 0)) (by (with_reducible repeat (first | refine blk_drewN ?_ _ | refine blk_drew ?_ | refine blk_alloc ?_ _)); refine blk_put (cs := #[.string a0_0, .string (⟨#[]⟩ : ByteArray), .slice none 0 0]) ?_ 1 _ rfl; (with_reducible repeat (first | refine blk_drewN ?_ _ | refine blk_drew ?_ | refine blk_alloc ?_ _)); refine blk_put (cs := #[.string (⟨#[]⟩ : ByteArray), .string (⟨#[]⟩ : ByteArray), .slice none 0 0]) ?_ 0 _ rfl; (with_reducible repeat (first | refine blk_drewN ?_ _ | refine blk_drew ?_ | refine blk_alloc ?_ _)); exact BK276.out) hb); replace HB := ak (below_step (bl3 GE274 GE275 GE276) hb); (try clear hb); (try clear hb2); (try clear hk); (try clear hi); (try clear ho0); obtain ⟨Ao12, co12, eo12⟩ := Kd.R_slice HO279.out; subst eo12; obtain ⟨hcz13_0, hcz13_1, hcz13_2, hfz13_0, hfz13_1, hfz13_2⟩ := cz3 BK276; obtain ⟨hcz14_0, hcz14_1, hcz14_2, hfz14_0, hfz14_1, hfz14_2⟩ := cz3 BK275))
 refine bodyPost_ret (results_cell_row rfl _ _ gb275 81 #[.string a0_0, .string a0_1, .slice Ao12 t277.length co12] (0, 0) _ rfl (by (with_reducible repeat (first | refine blk_drewN ?_ _ | refine blk_drew ?_ | refine blk_alloc ?_ _)); refine blk_put (cs := #[.string a0_0, .string a0_1, .slice none 0 0]) ?_ 2 _ rfl; (with_reducible repeat (first | refine blk_drewN ?_ _ | refine blk_drew ?_ | refine blk_alloc ?_ _)); refine blk_put (cs := #[.string a0_0, .string (⟨#[]⟩ : ByteArray), .slice none 0 0]) ?_ 1 _ rfl; (with_reducible repeat (first | refine blk_drewN ?_ _ | refine blk_drew ?_ | refine blk_alloc ?_ _)); refine blk_put (cs := #[.string (⟨#[]⟩ : ByteArray), .string (⟨#[]⟩ : ByteArray), .slice none 0 0]) ?_ 0 _ rfl; (with_reducible repeat (first | refine blk_drewN ?_ _ | refine blk_drew ?_ | refine blk_alloc ?_ _)); refine blk_far ?_ NB275_276.out _; (with_reducible repeat (first | refine blk_drewN ?_ _ | refine blk_drew ?_ | refine blk_alloc ?_ _)); exact BK275.out) Try.underlying81 rfl (by kernel_rfl)) rfl ?_
 exact ⟨_, ew, by (with_reducible repeat (first | apply Kd.R_alloc | apply Kd.R_drewN | apply Kd.R_drew)); exact Kd.R_mono (Kd.R_far (p := ⟨gb275, 2, none⟩) (Kd.R_far (p := ⟨gb275, 1, none⟩) (Kd.R_far (p := ⟨gb275, 0, none⟩) (Kd.R_far (p := ⟨gb276, 2, none⟩) (Kd.R_types (Kd.R_types HO279.out BK276.out (by decide)) BK275.out (by decide)) (fun _ hk => hk.1.2) (.slice Ao12 t277.length co12)) (fun _ hk => hk.2) (.string a0_0)) (fun _ hk => hk.2) (.string a0_1)) (fun _ hk => hk.2) (.slice Ao12 t277.length co12)) (fun _ hk => trivial), bl3 GE274 GE275 GE276⟩

end Go.Proofs.Ytplekidnlofioaa.Q
namespace Go.Proofs.Ytplekidnlofioaa.Q
open Go.RowKit Go.Proofs.YtplekidnlofioaaW.PrintWords Go.Proofs.YtplekidnlofioaaW.PrintLast Go.Proofs.YtplekidnlofioaaW.PrintMore
attribute [local go_sem] max2_int min2_int max_two min_two max_three min_three max_four min_four   -- for this text's walks alone
set_option linter.unusedVariables false
set_option linter.unusedSimpArgs false

/-! ### laws_toSeriesS: function 23 -/
def laws_toSeriesS.l0 : Nat → List (S137) → List (S81) → Int → Option ((List (S81)))
 | 0, _, _, _ => none
 | k + 1, x0, x3, x4 => if x4 < (x0.length : Int) then (if 0 ≤ x4 then ((laws_toSeries.f k ((rd_T137 x0 x4).f0) ((rd_T137 x0 x4).f1) ((rd_T137 x0 x4).f2)).bind fun bt284 => (if x4 < (x3.length : Int) then (laws_toSeriesS.l0 k x0 (x3.set (x4 : Int).toNat (⟨bt284.1, bt284.2.1, bt284.2.2⟩ : S81)) (wrap64 (x4 + 1))) else (none))) else (none)) else (some x3)
def laws_toSeriesS.f (k : Nat) (l0 : List (S137)) : Option ((List (S81))) := if 0 ≤ (l0.length : Int) then (if ((l0.length : Int) : Int).toNat ≤ 5026338869833 then (laws_toSeriesS.l0 k l0 (List.replicate ((l0.length : Int) : Int).toNat z81) 0) else (none)) else (none)
theorem laws_toSeriesS.mono_l : ∀ k, (∀ y0 y1 y2, LeO (laws_toSeriesS.l0 k y0 y1 y2) (laws_toSeriesS.l0 (k + 1) y0 y1 y2))
 | 0 => fun _ _ _ r h => by simp [laws_toSeriesS.l0] at h
 | k + 1 => by
  have ih0 := laws_toSeriesS.mono_l k
  · intro y0 y1 y2
    unfold laws_toSeriesS.l0
    repeat' first
    | (with_reducible exact ih0 _ _ _)
    | (with_reducible exact laws_toSeries.mono _ _ _ _)
    | (with_reducible exact LeO.refl _)
    | (with_reducible exact LeO.none _)
    | (with_reducible refine LeO.ite ?_ ?_)
    | (with_reducible refine LeO.bind ?_ (fun _ => ?_))
    | exact ih0 _ _ _
    | exact laws_toSeries.mono _ _ _ _
    | exact LeO.none _
    | refine LeO.ite ?_ ?_
    | refine LeO.bind ?_ (fun _ => ?_)
theorem laws_toSeriesS.mono : ∀ a0 k, LeO (laws_toSeriesS.f k a0) (laws_toSeriesS.f (k + 1) a0) := by
 intro a0 k
 have ih0 := laws_toSeriesS.mono_l k
 unfold laws_toSeriesS.f
 repeat' first
  | (with_reducible exact ih0 _ _ _)
  | (with_reducible exact laws_toSeries.mono _ _ _ _)
  | (with_reducible exact LeO.refl _)
  | (with_reducible exact LeO.none _)
  | (with_reducible refine LeO.ite ?_ ?_)
  | (with_reducible refine LeO.bind ?_ (fun _ => ?_))
  | exact ih0 _ _ _
  | exact laws_toSeries.mono _ _ _ _
  | exact LeO.none _
  | refine LeO.ite ?_ ?_
  | refine LeO.bind ?_ (fun _ => ?_)
set_option maxHeartbeats 8000000 in
set_option maxRecDepth 100000 in
theorem laws_toSeriesS.calls (k : Nat) (A0 : Option Addr) (c0 : Nat) (l0 : List (S137)) (r : List (S81)) (w : World) (hr0 : Kd.C k137 w A0 l0.length l0) (hc0 : l0.length ≤ c0) (h : laws_toSeriesS.f k l0 = some r) :
 Calls Try.prog 23 #[.slice A0 l0.length c0] w fun e w' => ∃ v0_ : Value, e = .returned (v0_) ∧ Kd.S k81 81 w' w.heap.size (fun _ => True) v0_ r ∧ Below w.heap.size w w' := by
 have hu137 := Try.underlying137
 have hu81 := Try.underlying81
 have HR0 := Aside0.mk hr0
 have HC0 := Aside0.mk hc0
 clear hr0 hc0
 have HB := Aside0.mk (Below.refl w.heap.size w)
 have H : (if 0 ≤ (l0.length : Int) then (if ((l0.length : Int) : Int).toNat ≤ 5026338869833 then (laws_toSeriesS.l0 k l0 (List.replicate ((l0.length : Int) : Int).toNat z81) 0) else (none)) else (none)) = some r := h
 clear h
 by_cases c2 : 0 ≤ (l0.length : Int)
 · rw [if_pos c2] at H
   have c2b0 := eq_true c2
   have c2b1 : decide (0 ≤ (l0.length : Int)) = true := decide_eq_true c2
   clear c2
   by_cases c3 : ((l0.length : Int) : Int).toNat ≤ 5026338869833
   · rw [if_pos c3] at H
     have c3b0 := eq_true c3
     have c3b1 : decide (((l0.length : Int) : Int).toNat ≤ 5026338869833) = true := decide_eq_true c3
     clear c3
     obtain ⟨y280, hy280⟩ : ∃ y_ : List (S81), y_ = (List.replicate ((l0.length : Int) : Int).toNat z81) := ⟨_, rfl⟩
     replace H : (laws_toSeriesS.l0 k l0 y280 0) = some r := by first | (rw [hy280]; with_reducible exact H) | (have H2_ := (Option.bind_some _ _).symm.trans H; rw [hy280]; with_reducible exact H2_) | (have H2_ := (Option.bind_some _ _).symm.trans H; with_reducible exact H2_) | with_reducible exact H | (rw [hy280]; exact H) | exact H
     have Ny280 := Aside0.mk hy280
     clear hy280
     have H' := Aside0.mk H
     clear H
     go_enter Try.func23, Try.ntmps23
     go_wp2_with (first | ((with_reducible refine gate_dst (N := 7) rfl ?_); refine Kd.S_make k81 _ 81 rfl (N := 7) rfl 24 _ _ rfl (l0.length : Int) rfl rfl Try.underlying24 (.agg #[(.string ⟨#[]⟩), (.string ⟨#[]⟩), (.slice none 0 0)]) 56 info81 rfl (by decide) (by omega) z81 (ok := fun _ => True) (okp := fun _ => True) (k81_mkM _ _ _ z81 (Kd.R_nil _ _ _ _ _)) (fun _ hk => hk) trivial (of_decide_eq_true am) (Nat.le_trans (Nat.mul_le_mul_right _ (of_decide_eq_true am : (l0.length : Int).toNat ≤ 5026338869833)) (by omega)) (Below.refl _ _) (Nat.le_refl _) ?_; intro v281 w4 ho5 hb hg_ hnew_; clear hg_ hnew_; (first | rw [← Ny280.out] at ho5 | (simp only [Int.reduceToNat] at ho5; rw [← Ny280.out] at ho5)); have HO282 := ak (Kd.S_lower ho5 (below_size bl)); replace HB := ak (below_step bl hb); clear hb ho5))
     go_loopg [4] k (fun kq v4 w' => ∃ (x3_1 : List (S81)) (x4_1 : Int), v4 = .int .i64 x4_1 ∧ Aside0 (laws_toSeriesS.l0 kq l0 x3_1 x4_1 = some r) ∧ Aside0 (kq ≤ k) ∧ Aside0 (Kd.S k81 81 w' w.heap.size (fun _ => True) v281 x3_1) ∧ Aside0 (Below w.heap.size w w'))
     case atStart => exact ⟨(y280), (0), es, H', ⟨Nat.le_refl _⟩, ⟨ks HO282⟩, ⟨bl⟩⟩
     case round =>
      clear H'
      try clear c2
      try clear c2b0
      try clear c2b1
      try clear p2
      try clear c3
      try clear c3b0
      try clear c3b1
      obtain ⟨x3_1, x4_1, rfl, HA, HK1, HO_3, HB⟩ := hrel
      cases gk with
      | zero => exact absurd HA.out (by simp [laws_toSeriesS.l0])
      | succ k1 =>
       have H := HA.out
       clear HA
       simp only [laws_toSeriesS.l0] at H
       by_cases c6 : x4_1 < (l0.length : Int)
       · rw [if_pos c6] at H
         have c6b0 : decide (x4_1 < (l0.length : Int)) = true := decide_eq_true c6
         clear c6
         by_cases c7 : 0 ≤ x4_1
         · rw [if_pos c7] at H
           have c7b0 : decide (0 ≤ x4_1) = true := decide_eq_true c7
           clear c7
           replace H := Option.bind_eq_some_iff.mp H
           obtain ⟨⟨t284, t285, t286⟩, A80, H⟩ := H
           replace H : (if x4_1 < (x3_1.length : Int) then (laws_toSeriesS.l0 k1 l0 (x3_1.set (x4_1 : Int).toNat (⟨t284, t285, t286⟩ : S81)) (wrap64 (x4_1 + 1))) else (none)) = some r := H
           have A8 := Aside0.mk A80
           clear A80
           by_cases c9 : x4_1 < (x3_1.length : Int)
           · rw [if_pos c9] at H
             have c9b0 : decide (x4_1 < (x3_1.length : Int)) = true := decide_eq_true c9
             clear c9
             obtain ⟨y289, hy289⟩ : ∃ y_ : List (S81), y_ = (x3_1.set (x4_1 : Int).toNat (⟨t284, t285, t286⟩ : S81)) := ⟨_, rfl⟩
             replace H : (laws_toSeriesS.l0 k1 l0 y289 (wrap64 (x4_1 + 1))) = some r := by first | (rw [hy289]; with_reducible exact H) | (have H2_ := (Option.bind_some _ _).symm.trans H; rw [hy289]; with_reducible exact H2_) | (have H2_ := (Option.bind_some _ _).symm.trans H; with_reducible exact H2_) | with_reducible exact H | (rw [hy289]; exact H) | exact H
             have Ny289 := Aside0.mk hy289
             clear hy289
             have H' := Aside0.mk H
             clear H
             have p283 : 0 ≤ (x4_1 : Int) := of_decide_eq_true am
             have q283 : x4_1 < (l0.length : Int) := of_decide_eq_true am
             obtain ⟨ad283, A283_2, c283_2, e283, hx283_0, hx283_1, hx283_2, hl283_2, hi283_2⟩ := at_T137 HR0.out x4_1 p283 q283
             cases e283
             replace hx283_0 := cw hx283_0
             replace hx283_1 := cw hx283_1
             replace hx283_2 := cw hx283_2
             have HR283_2 := Aside0.mk hi283_2
             have HC283_2 := Aside0.mk hl283_2
             clear hi283_2 hl283_2
             replace p283 := eq_true p283
             replace q283 := eq_true q283
             go_wp2_with (first | ((with_reducible refine gate_callee (f := 80) rfl ?_); refine gl (some 20) Try.func80 #[.agg #[.string ((rd_T137 l0 x4_1).f0), .string ((rd_T137 l0 x4_1).f1), .slice A283_2 ((rd_T137 l0 x4_1).f2).length c283_2]] ?_; (with_reducible refine (laws_toSeries.calls k1 ((rd_T137 l0 x4_1).f0) ((rd_T137 l0 x4_1).f1) _ _ ((rd_T137 l0 x4_1).f2) t284 t285 t286 _ ?side1 ?side2 A8.out).mono ?_); (case side1 => exact cb HR283_2); (case side2 => exact HC283_2.out); rintro e w11 ⟨v287, rfl, ho0, hb⟩; refine ⟨_, rfl, ?_⟩; replace HO_3 := ak (Kd.S_elder' (ks HO_3) (Kd.R_base ho0) hb); have HO288 := ak (Kd.R_lower ho0 (below_size bl)); replace HB := ak (below_step bl hb); (try clear hb); (try clear hb2); (try clear hk); (try clear hi); (try clear ho0); have p10 : 0 ≤ (x4_1 : Int) := of_decide_eq_true am; have q10 : (x4_1 : Int) < ((x3_1.length : Int) : Int) := of_decide_eq_true am; obtain ⟨go10, co10, eo10, gb10, gl10, cl10, HG10⟩ := Kd.S_form HO_3.out (by omega); (first | cases eo10 | (injection eo10 with ea_ en_ ec_; (first | subst ea_ | (injection ea_ with ea_; subst ea_)); subst ec_; clear en_)); have GB10 := Aside0.mk gb10; have GG10 := Aside0.mk HG10; clear gb10 gl10 HG10; obtain ⟨_, ce10, hcl10, hM10, hcc10, hfr10, _, _⟩ := Kd.S_elem HO_3.out z81 (x4_1 : Int) p10 q10; obtain ⟨ve10_2, rfl, ge10_2⟩ := k81_openM hM10; have hx10_0 : w11.cell? ⟨go10, (x4_1 : Int).toNat * 3, none⟩ = some (.string ((rd_T81 x3_1 x4_1).f0)) := hcc10 0 _ rfl; have hx10_1 : w11.cell? ⟨go10, (x4_1 : Int).toNat * 3 + 1, none⟩ = some (.string ((rd_T81 x3_1 x4_1).f1)) := hcc10 1 _ rfl; have hx10_2 : w11.cell? ⟨go10, (x4_1 : Int).toNat * 3 + 2, none⟩ = some (ve10_2) := hcc10 2 _ rfl; have hf10_0 : w11.frozen? ⟨go10, (x4_1 : Int).toNat * 3, none⟩ = false := hfr10 0; have hf10_1 : w11.frozen? ⟨go10, (x4_1 : Int).toNat * 3 + 1, none⟩ = false := hfr10 1; have hf10_2 : w11.frozen? ⟨go10, (x4_1 : Int).toNat * 3 + 2, none⟩ = false := hfr10 2; clear hcl10 hcc10 hfr10 hM10; replace p10 := eq_true p10; replace q10 := eq_true q10; have n_ := Aside0.mk (Kd.S_mono (ok' := (fun k_ => some k_ ≠ (v287 : Value).ownBlock)) HO_3.out (fun k_ hk => hk.2)); clear HO_3; have HO_3 := n_; clear n_; have HX12 := Aside0.mk (show Kd.S k81 81 w11 w.heap.size (fun k_ => ((fun _ => True)) k_ ∧ ¬ ((fun k_ => some k_ = (v287 : Value).ownBlock)) k_) (.slice (some ⟨go10, 0, none⟩) x3_1.length co10) x3_1 from (by (with_reducible repeat (first | apply Kd.S_alloc | apply Kd.S_drewN | apply Kd.S_drew)); exact Kd.S_mono HO_3.out (fun k_ hk => ⟨trivial, fun e_ => hk e_⟩))); obtain ⟨oki12, ce12, hcl12, hM12, hcc12, hfr12, hoki12, hH12⟩ := Kd.S_elem HX12.out z81 (x4_1 : Int) (of_decide_eq_true am) (by have h_ : (x4_1 : Int) < ((x3_1.length : Int) : Int) := of_decide_eq_true am; first | exact h_ | (have e_ := (Kd.S_reads' HO_3.out).1; omega) | simpa using h_); obtain ⟨ve12_2, rfl, ge12_2⟩ := k81_openM hM12; have HP12 := Kd.S_seg hH12 (of_decide_eq_true am) (by have h_ : (x4_1 : Int) < ((x3_1.length : Int) : Int) := of_decide_eq_true am; first | exact h_ | (have e_ := (Kd.S_reads' HO_3.out).1; omega) | simpa using h_) (seg := [.string t284, .string t285, v287]) (j := 0) (show 3 ≤ 3 from by decide) (x' := (⟨t284, t285, t286⟩ : S81)) (k81_mkM _ _ _ (⟨t284, t285, t286⟩ : S81) (Kd.R_mono (Kd.R_tight rfl (Kd.R_mono (ok' := fun k_ => ((fun _ => True)) k_ ∧ k_ ≠ go10) (Kd.R_apart' (HO288.out) (Kd.S_typed HO_3.out) (by decide)) (fun k_ hk => ⟨trivial, fun e_ => (hk.2) (by rw [e_]; rfl)⟩))) (fun _ h_ => Or.inr (h_)))) (fun _ hk => hk) (fun k_ hk_ => ((Kd.R_mono (ok' := fun k_ => ((fun _ => True)) k_ ∧ k_ ≠ go10) (Kd.R_apart' (HO288.out) (Kd.S_typed HO_3.out) (by decide)) (fun k_ hk => ⟨trivial, fun e_ => (hk.2) (by rw [e_]; rfl)⟩))).1 k_ hk_.symm); have hx12_0 := hcc12 0 _ rfl; (try simp only [show (k81).sz = 3 from rfl, Nat.mul_one, Nat.add_zero] at hx12_0); have hf12_0 := hfr12 0; (try simp only [show (k81).sz = 3 from rfl, Nat.mul_one, Nat.add_zero] at hf12_0); have hx12_1 := hcc12 1 _ rfl; (try simp only [show (k81).sz = 3 from rfl, Nat.mul_one, Nat.add_zero] at hx12_1); have hf12_1 := hfr12 1; (try simp only [show (k81).sz = 3 from rfl, Nat.mul_one, Nat.add_zero] at hf12_1); have hx12_2 := hcc12 2 _ rfl; (try simp only [show (k81).sz = 3 from rfl, Nat.mul_one, Nat.add_zero] at hx12_2); have hf12_2 := hfr12 2; (try simp only [show (k81).sz = 3 from rfl, Nat.mul_one, Nat.add_zero] at hf12_2); clear hcl12 hcc12 hfr12 hM12 hoki12 hH12) | ((with_reducible refine gate_store (t := 81) (p := 21) rfl ?_); refine store_event (t := 81) (p := 21) (v := ?vo_w13) (w1 := (((w11.setCell ⟨go10, (x4_1 : Int).toNat * 3, none⟩ (.string t284)).setCell ⟨go10, (x4_1 : Int).toNat * 3 + 1, none⟩ (.string t285)).setCell ⟨go10, (x4_1 : Int).toNat * 3 + 2, none⟩ (v287))) ?hg ?ho ?hn ?hr ?_; (case ho => rfl); (case hg => rfl); (case hn => rfl); (case hr => first | (go_simp; done) | (go_simp; rfl) | (obtain ⟨az_, cz_, ez_⟩ := Kd.R_slice HO288.out; rw [ez_]; go_simp; done) | (obtain ⟨az_, cz_, ez_⟩ := Kd.R_slice HO288.out; rw [ez_]; go_simp; rfl)); intro w13 hw; have hg : w11.grownBy w13 (some go10) := (by rw [hw]; exact HP12.2); have hp_ : Kd.S k81 81 w13 w.heap.size (fun _ => True) (.slice (some ⟨go10, 0, none⟩) x3_1.length co10) y289 := (by rw [hw, Ny289.out]; exact HP12.1); clear HP12; replace HO_3 := ak hp_; replace HB := ak (by rw [hw]; exact below_set (below_set (below_set (HB.out) GB10.out) GB10.out) GB10.out : Below w.heap.size w w13); clear HO288; clear hg hw hp_))
             go_roundg k1
             case measure => have := HK1.out; omega
             case rel => exact ⟨(y289), (wrap64 (x4_1 + 1)), es, H', ⟨kp⟩, ⟨ks HO_3⟩, ⟨bl⟩⟩
           · rw [if_neg c9] at H
             exact absurd H (by simp)
         · rw [if_neg c7] at H
           exact absurd H (by simp)
       · rw [if_neg c6] at H
         have c6b0 : decide (x4_1 < (l0.length : Int)) = false := decide_eq_false c6
         clear c6
         obtain rfl := Option.some.inj H
         go_wp2
         go_ret
         exact ⟨_, ew, ks HO_3, bl⟩
   · rw [if_neg c3] at H
     exact absurd H (by simp)
 · rw [if_neg c2] at H
   exact absurd H (by simp)

end Go.Proofs.Ytplekidnlofioaa.Q
namespace Go.Proofs.Ytplekidnlofioaa.Q
open Go.RowKit Go.Proofs.YtplekidnlofioaaW.PrintWords Go.Proofs.YtplekidnlofioaaW.PrintLast Go.Proofs.YtplekidnlofioaaW.PrintMore
attribute [local go_sem] max2_int min2_int max_two min_two max_three min_three max_four min_four   -- for this text's walks alone
set_option linter.unusedVariables false
set_option linter.unusedSimpArgs false

/-! ### laws_eqPoint: function 181 -/
def laws_eqPoint.f (a0_0 : Int) (a0_1 : Int) (a1_0 : Int) (a1_1 : Int) : Option (Bool) := if a0_0 = a1_0 then (if a0_1 = a1_1 then (some true) else (some false)) else (some false)
set_option maxHeartbeats 8000000 in
set_option maxRecDepth 100000 in
theorem laws_eqPoint.calls (a0_0 : Int) (a0_1 : Int) (a1_0 : Int) (a1_1 : Int) (r : Bool) (w : World) (h : laws_eqPoint.f a0_0 a0_1 a1_0 a1_1 = some r) :
 Calls Try.prog 181 #[.agg #[.int .i64 a0_0, .int .i64 a0_1], .agg #[.int .i64 a1_0, .int .i64 a1_1]] w fun e w' => e = .returned (.bool r) ∧ Below w.heap.size w w' := by
 have hu37 := Try.underlying37
 have HB := Aside0.mk (Below.refl w.heap.size w)
 have H : (if a0_0 = a1_0 then (if a0_1 = a1_1 then (some true) else (some false)) else (some false)) = some r := h
 clear h
 by_cases c3 : a0_0 = a1_0
 · rw [if_pos c3] at H
   have c3b0 : (a0_0 == a1_0) = true := beq_iff_eq.mpr c3
   have c3b1 : (a0_0 != a1_0) = false := bne_eq_false_iff_eq.mpr c3
   clear c3
   by_cases c4 : a0_1 = a1_1
   · rw [if_pos c4] at H
     have c4b0 : (a0_1 == a1_1) = true := beq_iff_eq.mpr c4
     have c4b1 : (a0_1 != a1_1) = false := bne_eq_false_iff_eq.mpr c4
     clear c4
     obtain rfl := Option.some.inj H
     go_enter Try.func181, Try.ntmps181
     go_wp2_with (first | ((with_reducible refine gate_dst (N := 2) rfl ?_); refine bx 2 #[.int .i64 a0_0, .int .i64 a0_1] 37 ?_; intro gb290 hg w5 hbox hb; have BK290 := ak hbox; have GW290 := gs hg bl; have GE290 := gs hg bl; replace HB := ak (below_step bl hb); clear hb hbox hg) | ((with_reducible refine gate_dst (N := 3) rfl ?_); refine bx 3 #[.int .i64 a1_0, .int .i64 a1_1] 37 ?_; intro gb291 hg w6 hbox hb; have BK291 := ak hbox; have GW291 := gs hg (bl1 GE290); have GE291 := gs hg (bl1 GE290); replace HB := ak (below_step (bl1 GE290) hb); have NB290_291 := nl hg BK290; have NB291_290 := ng hg BK290; replace BK290 := bb BK290 hb; clear hb hbox hg; have hnb7 := NB290_291.out; have hnc7 := NB291_290.out; obtain ⟨hcz8_0, hcz8_1, hfz8_0, hfz8_1⟩ := cz2 BK290; obtain ⟨hcz9_0, hcz9_1, hfz9_0, hfz9_1⟩ := cz2 BK291))
     go_ret
     exact ⟨ew, bl2 GE290 GE291⟩
   · rw [if_neg c4] at H
     have c4b0 : (a0_1 == a1_1) = false := beq_eq_false_iff_ne.mpr c4
     have c4b1 : (a0_1 != a1_1) = true := bne_iff_ne.mpr c4
     obtain rfl := Option.some.inj H
     go_enter Try.func181, Try.ntmps181
     go_wp2_with (first | ((with_reducible refine gate_dst (N := 2) rfl ?_); refine bx 2 #[.int .i64 a0_0, .int .i64 a0_1] 37 ?_; intro gb290 hg w10 hbox hb; have BK290 := ak hbox; have GW290 := gs hg bl; have GE290 := gs hg bl; replace HB := ak (below_step bl hb); clear hb hbox hg) | ((with_reducible refine gate_dst (N := 3) rfl ?_); refine bx 3 #[.int .i64 a1_0, .int .i64 a1_1] 37 ?_; intro gb291 hg w11 hbox hb; have BK291 := ak hbox; have GW291 := gs hg (bl1 GE290); have GE291 := gs hg (bl1 GE290); replace HB := ak (below_step (bl1 GE290) hb); have NB290_291 := nl hg BK290; have NB291_290 := ng hg BK290; replace BK290 := bb BK290 hb; clear hb hbox hg; have hnb12 := NB290_291.out; have hnc12 := NB291_290.out; obtain ⟨hcz13_0, hcz13_1, hfz13_0, hfz13_1⟩ := cz2 BK290; obtain ⟨hcz14_0, hcz14_1, hfz14_0, hfz14_1⟩ := cz2 BK291))
     go_ret
     exact ⟨ew, bl2 GE290 GE291⟩
 · rw [if_neg c3] at H
   have c3b0 : (a0_0 == a1_0) = false := beq_eq_false_iff_ne.mpr c3
   have c3b1 : (a0_0 != a1_0) = true := bne_iff_ne.mpr c3
   obtain rfl := Option.some.inj H
   go_enter Try.func181, Try.ntmps181
   go_wp2_with (first | ((with_reducible refine gate_dst (N := 2) rfl ?_); refine bx 2 #[.int .i64 a0_0, .int .i64 a0_1] 37 ?_; intro gb290 hg w15 hbox hb; have BK290 := ak hbox; have GW290 := gs hg bl; have GE290 := gs hg bl; replace HB := ak (below_step bl hb); clear hb hbox hg) | ((with_reducible refine gate_dst (N := 3) rfl ?_); refine bx 3 #[.int .i64 a1_0, .int .i64 a1_1] 37 ?_; intro gb291 hg w16 hbox hb; have BK291 := ak hbox; have GW291 := gs hg (bl1 GE290); have GE291 := gs hg (bl1 GE290); replace HB := ak (below_step (bl1 GE290) hb); have NB290_291 := nl hg BK290; have NB291_290 := ng hg BK290; replace BK290 := bb BK290 hb; clear hb hbox hg; have hnb17 := NB290_291.out; have hnc17 := NB291_290.out; obtain ⟨hcz18_0, hcz18_1, hfz18_0, hfz18_1⟩ := cz2 BK290; obtain ⟨hcz19_0, hcz19_1, hfz19_0, hfz19_1⟩ := cz2 BK291))
   go_ret
   exact ⟨ew, bl2 GE290 GE291⟩

end Go.Proofs.Ytplekidnlofioaa.Q
namespace Go.Proofs.Ytplekidnlofioaa.Q
open Go.RowKit Go.Proofs.YtplekidnlofioaaW.PrintWords Go.Proofs.YtplekidnlofioaaW.PrintLast Go.Proofs.YtplekidnlofioaaW.PrintMore
attribute [local go_sem] max2_int min2_int max_two min_two max_three min_three max_four min_four   -- for this text's walks alone
set_option linter.unusedVariables false
set_option linter.unusedSimpArgs false

/-! ### laws_eqPointS: function 136 -/
def laws_eqPointS.l0 : Nat → List (S37) → List (S37) → Int → Option (Bool)
 | 0, _, _, _ => none
 | k + 1, x0, x1, x5 => if x5 < (x0.length : Int) then (if 0 ≤ x5 then (if x5 < (x1.length : Int) then ((laws_eqPoint.f ((rd_T37 x0 x5).f0) ((rd_T37 x0 x5).f1) ((rd_T37 x1 x5).f0) ((rd_T37 x1 x5).f1)).bind fun t294 => (if t294 = true then (laws_eqPointS.l0 k x0 x1 (wrap64 (x5 + 1))) else (some false))) else (none)) else (none)) else (some true)
def laws_eqPointS.f (k : Nat) (l0 : List (S37)) (l1 : List (S37)) : Option (Bool) := if (l0.length : Int) = (l1.length : Int) then (laws_eqPointS.l0 k l0 l1 0) else (some false)
theorem laws_eqPointS.mono_l : ∀ k, (∀ y0 y1 y2, LeO (laws_eqPointS.l0 k y0 y1 y2) (laws_eqPointS.l0 (k + 1) y0 y1 y2))
 | 0 => fun _ _ _ r h => by simp [laws_eqPointS.l0] at h
 | k + 1 => by
  have ih0 := laws_eqPointS.mono_l k
  · intro y0 y1 y2
    unfold laws_eqPointS.l0
    repeat' first
    | (with_reducible exact ih0 _ _ _)
    | (with_reducible exact LeO.refl _)
    | (with_reducible exact LeO.none _)
    | (with_reducible refine LeO.ite ?_ ?_)
    | (with_reducible refine LeO.bind ?_ (fun _ => ?_))
    | exact ih0 _ _ _
    | exact LeO.none _
    | refine LeO.ite ?_ ?_
    | refine LeO.bind ?_ (fun _ => ?_)
theorem laws_eqPointS.mono : ∀ a0 a1 k, LeO (laws_eqPointS.f k a0 a1) (laws_eqPointS.f (k + 1) a0 a1) := by
 intro a0 a1 k
 have ih0 := laws_eqPointS.mono_l k
 unfold laws_eqPointS.f
 repeat' first
  | (with_reducible exact ih0 _ _ _)
  | (with_reducible exact LeO.refl _)
  | (with_reducible exact LeO.none _)
  | (with_reducible refine LeO.ite ?_ ?_)
  | (with_reducible refine LeO.bind ?_ (fun _ => ?_))
  | exact ih0 _ _ _
  | exact LeO.none _
  | refine LeO.ite ?_ ?_
  | refine LeO.bind ?_ (fun _ => ?_)
def laws_eqPointS.T6 : Bool × List (List Nat × List Nat) := (true, [([], []), ([], []), ([0, 1], [0, 1]), ([2], [2]), ([], []), ([], []), ([4, 5], [4, 5]), ([6], [6]), ([3, 7], [3, 7]), ([8], [8])])
def laws_eqPointS.B6 : List Nat := [0, 0, 3, 7, 0, 0, 48, 112, 255, 511]
theorem laws_eqPointS.tab6 : rtab .any (opsOf Try.f136 6) = laws_eqPointS.T6 := by kernel_rfl
theorem laws_eqPointS.bits6 : waitsOk laws_eqPointS.T6.2 laws_eqPointS.B6 = true := by kernel_rfl
set_option maxHeartbeats 8000000 in
set_option maxRecDepth 100000 in
theorem laws_eqPointS.calls (k : Nat) (A0 : Option Addr) (c0 : Nat) (l0 : List (S37)) (A1 : Option Addr) (c1 : Nat) (l1 : List (S37)) (r : Bool) (w : World) (hr0 : Kd.C k37 w A0 l0.length l0) (hc0 : l0.length ≤ c0) (hr1 : Kd.C k37 w A1 l1.length l1) (hc1 : l1.length ≤ c1) (h : laws_eqPointS.f k l0 l1 = some r) :
 Calls Try.prog 136 #[.slice A0 l0.length c0, .slice A1 l1.length c1] w fun e w' => e = .returned (.bool r) ∧ Below w.heap.size w w' := by
 have hu37 := Try.underlying37
 have HR0 := Aside0.mk hr0
 have HC0 := Aside0.mk hc0
 clear hr0 hc0
 have HR1 := Aside0.mk hr1
 have HC1 := Aside0.mk hc1
 clear hr1 hc1
 have HB := Aside0.mk (Below.refl w.heap.size w)
 have H : (if (l0.length : Int) = (l1.length : Int) then (laws_eqPointS.l0 k l0 l1 0) else (some false)) = some r := h
 clear h
 by_cases c3 : (l0.length : Int) = (l1.length : Int)
 · rw [if_pos c3] at H
   have c3b0 : ((l0.length : Int) == (l1.length : Int)) = true := beq_iff_eq.mpr c3
   have c3b1 : ((l0.length : Int) != (l1.length : Int)) = false := bne_eq_false_iff_eq.mpr c3
   have c3b2 : (l0.length == l1.length) = true := by first | simpa using c3 | (simp at c3 ⊢; omega)
   clear c3
   have H' := Aside0.mk H
   clear H
   go_enter Try.func136, Try.ntmps136
   go_wp2
   go_loopg [5] k (fun kq v5 w' => ∃ (x5_1 : Int), v5 = .int .i64 x5_1 ∧ Aside0 (laws_eqPointS.l0 kq l0 l1 x5_1 = some r) ∧ Aside0 (kq ≤ k) ∧ Aside0 (Below w.heap.size w w'))
   case atStart => exact ⟨(0), es, H', ⟨Nat.le_refl _⟩, ⟨bl⟩⟩
   case round =>
    clear H'
    try clear c1
    try clear p2
    try clear c3
    try clear c3b0
    try clear c3b1
    try clear c3b2
    obtain ⟨x5_1, rfl, HA, HK1, HB⟩ := hrel
    cases gk with
    | zero => exact absurd HA.out (by simp [laws_eqPointS.l0])
    | succ k1 =>
     have H := HA.out
     clear HA
     simp only [laws_eqPointS.l0] at H
     by_cases c4 : x5_1 < (l0.length : Int)
     · rw [if_pos c4] at H
       have c4b0 : decide (x5_1 < (l0.length : Int)) = true := decide_eq_true c4
       clear c4
       by_cases c5 : 0 ≤ x5_1
       · rw [if_pos c5] at H
         have c5b0 : decide (0 ≤ x5_1) = true := decide_eq_true c5
         clear c5
         by_cases c6 : x5_1 < (l1.length : Int)
         · rw [if_pos c6] at H
           have c6b0 : decide (x5_1 < (l1.length : Int)) = true := decide_eq_true c6
           clear c6
           obtain ⟨t294, A70, H⟩ := bo H
           have A7 := Aside0.mk A70
           clear A70
           by_cases c8 : t294 = true
           · subst c8
             replace H := iT H
             have H' := Aside0.mk H
             clear H
             try go_wp2
             replace HB := ak (below_drew1 HB.out)
             have p292 : 0 ≤ (x5_1 : Int) := of_decide_eq_true am
             have q292 : x5_1 < (l0.length : Int) := of_decide_eq_true am
             obtain ⟨ad292, e292, hx292_0, hx292_1⟩ := at_T37 HR0.out x5_1 p292 q292
             have hw292_1 := hx292_1
             have hw292_0 := hx292_0
             cases e292
             replace hx292_0 := cw hx292_0
             replace hx292_1 := cw hx292_1
             replace p292 := eq_true p292
             replace q292 := eq_true q292
             have p293 : 0 ≤ (x5_1 : Int) := of_decide_eq_true am
             have q293 : x5_1 < (l1.length : Int) := of_decide_eq_true am
             obtain ⟨ad293, e293, hx293_0, hx293_1⟩ := at_T37 HR1.out x5_1 p293 q293
             have hw293_1 := hx293_1
             have hw293_0 := hx293_0
             cases e293
             replace hx293_0 := cw hx293_0
             replace hx293_1 := cw hx293_1
             replace p293 := eq_true p293
             replace q293 := eq_true q293
             refine start_ (n := 10) (S := fun w' => w'.cell? (ad292.add ((x5_1).toNat * 2)) = some (.int .i64 ((rd_T37 l0 x5_1).f0)) ∧ w'.cell? ⟨(ad292.add ((x5_1).toNat * 2)).block, (ad292.add ((x5_1).toNat * 2)).off + 1, none⟩ = some (.int .i64 ((rd_T37 l0 x5_1).f1)) ∧ w'.cell? (ad293.add ((x5_1).toNat * 2)) = some (.int .i64 ((rd_T37 l1 x5_1).f0)) ∧ w'.cell? ⟨(ad293.add ((x5_1).toNat * 2)).block, (ad293.add ((x5_1).toNat * 2)).off + 1, none⟩ = some (.int .i64 ((rd_T37 l1 x5_1).f1))) (ds := []) (bitsA 10 0) (by kernel_rfl) rfl rfl ⟨(cw hw292_0), (cw hw292_1), (cw hw293_0), (cw hw293_1)⟩ (fun hHeld => ?_); refine with_tabW laws_eqPointS.tab6 laws_eqPointS.bits6 (fun HT_ HW_ => ?_)
             generalize wr.drew = w9 at HB hx292_0 hx292_1 hx293_0 hx293_1 hHeld ⊢
             refine pu 0 (some 17) (bitsA 10 1) ?_
             refine pu 1 (some 18) (bitsA 10 3) ?_
             refine pu 2 (some 19) (bitsA 10 7) ?_
             refine tk 3 (some 20) (bitsA 10 15) hHeld ?_ (hy := Or.inl ⟨by rfl, by rintro w' ⟨s0, s1, s2, s3⟩; go_simp; with_reducible rfl⟩)
             refine pu 4 (some 21) (bitsA 10 31) ?_
             refine pu 5 (some 22) (bitsA 10 63) ?_
             refine pu 6 (some 23) (bitsA 10 127) ?_
             refine tk 7 (some 24) (bitsA 10 255) hHeld ?_ (hy := Or.inl ⟨by rfl, by rintro w' ⟨s0, s1, s2, s3⟩; go_simp; with_reducible rfl⟩)
             refine one_ (i := 8) (N := some 25) (bitsA 10 511) rfl rfl (one_of HT_.out (by kernel_rfl)) (by decide) (fun K hK => ?_)
             refine goes_ Try.func181 (by kernel_rfl) rfl #[.agg #[.int .i64 ((rd_T37 l0 x5_1).f0), .int .i64 ((rd_T37 l0 x5_1).f1)], .agg #[.int .i64 ((rd_T37 l1 x5_1).f0), .int .i64 ((rd_T37 l1 x5_1).f1)]] (by rfl) rfl rfl mt ?_
             with_reducible refine (laws_eqPoint.calls ((rd_T37 l0 x5_1).f0) ((rd_T37 l0 x5_1).f1) ((rd_T37 l1 x5_1).f0) ((rd_T37 l1 x5_1).f1) true _ A7.out).mono ?_
             rintro e w10 ⟨rfl, hb⟩
             refine ⟨_, rfl, ?_⟩
             replace HB := ak (below_step bl hb)
             (try clear hb)
             (try clear hb2)
             (try clear hk)
             (try clear hi)
             refine hK.out _ _ ⟨(cw hw292_0), (cw hw292_1), (cw hw293_0), (cw hw293_1)⟩ (fun hHeld => ?_)
             clear hK K
             refine nm ?_
             refine pu 9 (some 26) (bitsA 10 1023) ?_
             refine done_ (done_of HT_.out (by kernel_rfl)) ?_
             try go_wp2
             go_roundg k1
             case measure => have := HK1.out; omega
             case rel => exact ⟨(wrap64 (x5_1 + 1)), es, H', ⟨kp⟩, ⟨bl⟩⟩
           · replace c8 := Bool.eq_false_iff.mpr c8
             subst c8
             replace H := iF H
             obtain rfl := Option.some.inj H
             try go_wp2
             replace HB := ak (below_drew1 HB.out)
             have p292 : 0 ≤ (x5_1 : Int) := of_decide_eq_true am
             have q292 : x5_1 < (l0.length : Int) := of_decide_eq_true am
             obtain ⟨ad292, e292, hx292_0, hx292_1⟩ := at_T37 HR0.out x5_1 p292 q292
             have hw292_1 := hx292_1
             have hw292_0 := hx292_0
             cases e292
             replace hx292_0 := cw hx292_0
             replace hx292_1 := cw hx292_1
             replace p292 := eq_true p292
             replace q292 := eq_true q292
             have p293 : 0 ≤ (x5_1 : Int) := of_decide_eq_true am
             have q293 : x5_1 < (l1.length : Int) := of_decide_eq_true am
             obtain ⟨ad293, e293, hx293_0, hx293_1⟩ := at_T37 HR1.out x5_1 p293 q293
             have hw293_1 := hx293_1
             have hw293_0 := hx293_0
             cases e293
             replace hx293_0 := cw hx293_0
             replace hx293_1 := cw hx293_1
             replace p293 := eq_true p293
             replace q293 := eq_true q293
             refine start_ (n := 10) (S := fun w' => w'.cell? (ad292.add ((x5_1).toNat * 2)) = some (.int .i64 ((rd_T37 l0 x5_1).f0)) ∧ w'.cell? ⟨(ad292.add ((x5_1).toNat * 2)).block, (ad292.add ((x5_1).toNat * 2)).off + 1, none⟩ = some (.int .i64 ((rd_T37 l0 x5_1).f1)) ∧ w'.cell? (ad293.add ((x5_1).toNat * 2)) = some (.int .i64 ((rd_T37 l1 x5_1).f0)) ∧ w'.cell? ⟨(ad293.add ((x5_1).toNat * 2)).block, (ad293.add ((x5_1).toNat * 2)).off + 1, none⟩ = some (.int .i64 ((rd_T37 l1 x5_1).f1))) (ds := []) (bitsA 10 0) (by kernel_rfl) rfl rfl ⟨(cw hw292_0), (cw hw292_1), (cw hw293_0), (cw hw293_1)⟩ (fun hHeld => ?_); refine with_tabW laws_eqPointS.tab6 laws_eqPointS.bits6 (fun HT_ HW_ => ?_)
             generalize wr.drew = w11 at HB hx292_0 hx292_1 hx293_0 hx293_1 hHeld ⊢
             refine pu 0 (some 17) (bitsA 10 1) ?_
             refine pu 1 (some 18) (bitsA 10 3) ?_
             refine pu 2 (some 19) (bitsA 10 7) ?_
             refine tk 3 (some 20) (bitsA 10 15) hHeld ?_ (hy := Or.inl ⟨by rfl, by rintro w' ⟨s0, s1, s2, s3⟩; go_simp; with_reducible rfl⟩)
             refine pu 4 (some 21) (bitsA 10 31) ?_
             refine pu 5 (some 22) (bitsA 10 63) ?_
             refine pu 6 (some 23) (bitsA 10 127) ?_
             refine tk 7 (some 24) (bitsA 10 255) hHeld ?_ (hy := Or.inl ⟨by rfl, by rintro w' ⟨s0, s1, s2, s3⟩; go_simp; with_reducible rfl⟩)
             refine one_ (i := 8) (N := some 25) (bitsA 10 511) rfl rfl (one_of HT_.out (by kernel_rfl)) (by decide) (fun K hK => ?_)
             refine goes_ Try.func181 (by kernel_rfl) rfl #[.agg #[.int .i64 ((rd_T37 l0 x5_1).f0), .int .i64 ((rd_T37 l0 x5_1).f1)], .agg #[.int .i64 ((rd_T37 l1 x5_1).f0), .int .i64 ((rd_T37 l1 x5_1).f1)]] (by rfl) rfl rfl mt ?_
             with_reducible refine (laws_eqPoint.calls ((rd_T37 l0 x5_1).f0) ((rd_T37 l0 x5_1).f1) ((rd_T37 l1 x5_1).f0) ((rd_T37 l1 x5_1).f1) false _ A7.out).mono ?_
             rintro e w12 ⟨rfl, hb⟩
             refine ⟨_, rfl, ?_⟩
             replace HB := ak (below_step bl hb)
             (try clear hb)
             (try clear hb2)
             (try clear hk)
             (try clear hi)
             refine hK.out _ _ ⟨(cw hw292_0), (cw hw292_1), (cw hw293_0), (cw hw293_1)⟩ (fun hHeld => ?_)
             clear hK K
             refine nm ?_
             refine pu 9 (some 26) (bitsA 10 1023) ?_
             refine done_ (done_of HT_.out (by kernel_rfl)) ?_
             try go_wp2
             go_ret
             exact ⟨ew, bl⟩
         · rw [if_neg c6] at H
           exact absurd H (by simp)
       · rw [if_neg c5] at H
         exact absurd H (by simp)
     · rw [if_neg c4] at H
       have c4b0 : decide (x5_1 < (l0.length : Int)) = false := decide_eq_false c4
       clear c4
       obtain rfl := Option.some.inj H
       go_wp2
       go_ret
       exact ⟨ew, bl⟩
 · rw [if_neg c3] at H
   have c3b0 : ((l0.length : Int) == (l1.length : Int)) = false := beq_eq_false_iff_ne.mpr c3
   have c3b1 : ((l0.length : Int) != (l1.length : Int)) = true := bne_iff_ne.mpr c3
   have c3b2 : (l0.length == l1.length) = false := by first | simpa using c3 | (simp at c3 ⊢; omega)
   obtain rfl := Option.some.inj H
   go_enter Try.func136, Try.ntmps136
   go_wp2
   go_ret
   exact ⟨ew, bl⟩

end Go.Proofs.Ytplekidnlofioaa.Q
namespace Go.Proofs.Ytplekidnlofioaa.Q
open Go.RowKit Go.Proofs.YtplekidnlofioaaW.PrintWords Go.Proofs.YtplekidnlofioaaW.PrintLast Go.Proofs.YtplekidnlofioaaW.PrintMore
attribute [local go_sem] max2_int min2_int max_two min_two max_three min_three max_four min_four   -- for this text's walks alone
set_option linter.unusedVariables false
set_option linter.unusedSimpArgs false

/-! ### laws_eqSeries: function 81 -/
def laws_eqSeries.f (k : Nat) (a0_0 : ByteArray) (a0_1 : ByteArray) (l0_2 : List (S37)) (a1_0 : ByteArray) (a1_1 : ByteArray) (l1_2 : List (S37)) : Option (Bool) := if a0_0.toList = a1_0.toList then (if a0_1.toList = a1_1.toList then ((laws_eqPointS.f k l0_2 l1_2).bind fun t297 => (if t297 = true then (some true) else (some false))) else (some false)) else (some false)
theorem laws_eqSeries.mono : ∀ a0 a1 a2 a3 a4 a5 k, LeO (laws_eqSeries.f k a0 a1 a2 a3 a4 a5) (laws_eqSeries.f (k + 1) a0 a1 a2 a3 a4 a5) := by
 intro a0 a1 a2 a3 a4 a5 k
 unfold laws_eqSeries.f
 repeat' first
  | (with_reducible exact laws_eqPointS.mono _ _ _)
  | (with_reducible exact LeO.refl _)
  | (with_reducible exact LeO.none _)
  | (with_reducible refine LeO.ite ?_ ?_)
  | (with_reducible refine LeO.bind ?_ (fun _ => ?_))
  | exact laws_eqPointS.mono _ _ _
  | exact LeO.none _
  | refine LeO.ite ?_ ?_
  | refine LeO.bind ?_ (fun _ => ?_)
set_option maxHeartbeats 8000000 in
set_option maxRecDepth 100000 in
theorem laws_eqSeries.calls (k : Nat) (a0_0 : ByteArray) (a0_1 : ByteArray) (A0_2 : Option Addr) (c0_2 : Nat) (l0_2 : List (S37)) (a1_0 : ByteArray) (a1_1 : ByteArray) (A1_2 : Option Addr) (c1_2 : Nat) (l1_2 : List (S37)) (r : Bool) (w : World) (hr0_2 : Kd.C k37 w A0_2 l0_2.length l0_2) (hc0_2 : l0_2.length ≤ c0_2) (hr1_2 : Kd.C k37 w A1_2 l1_2.length l1_2) (hc1_2 : l1_2.length ≤ c1_2) (h : laws_eqSeries.f k a0_0 a0_1 l0_2 a1_0 a1_1 l1_2 = some r) :
 Calls Try.prog 81 #[.agg #[.string a0_0, .string a0_1, .slice A0_2 l0_2.length c0_2], .agg #[.string a1_0, .string a1_1, .slice A1_2 l1_2.length c1_2]] w fun e w' => e = .returned (.bool r) ∧ Below w.heap.size w w' := by
 have hu81 := Try.underlying81
 have HR0_2 := Aside0.mk hr0_2
 have HC0_2 := Aside0.mk hc0_2
 clear hr0_2 hc0_2
 have HR1_2 := Aside0.mk hr1_2
 have HC1_2 := Aside0.mk hc1_2
 clear hr1_2 hc1_2
 have HB := Aside0.mk (Below.refl w.heap.size w)
 have H : (if a0_0.toList = a1_0.toList then (if a0_1.toList = a1_1.toList then ((laws_eqPointS.f k l0_2 l1_2).bind fun t297 => (if t297 = true then (some true) else (some false))) else (some false)) else (some false)) = some r := h
 clear h
 by_cases c3 : a0_0.toList = a1_0.toList
 · rw [if_pos c3] at H
   have c3b0 : (a0_0.toList == a1_0.toList) = true := beq_iff_eq.mpr c3
   have c3b1 : (a0_0.toList != a1_0.toList) = false := bne_eq_false_iff_eq.mpr c3
   clear c3
   by_cases c4 : a0_1.toList = a1_1.toList
   · rw [if_pos c4] at H
     have c4b0 : (a0_1.toList == a1_1.toList) = true := beq_iff_eq.mpr c4
     have c4b1 : (a0_1.toList != a1_1.toList) = false := bne_eq_false_iff_eq.mpr c4
     clear c4
     obtain ⟨t297, A50, H⟩ := bo H
     have A5 := Aside0.mk A50
     clear A50
     by_cases c6 : t297 = true
     · subst c6
       replace H := iT H
       obtain rfl := Option.some.inj H
       go_enter Try.func81, Try.ntmps81
       go_wp2_with (first | ((with_reducible refine gate_dst (N := 2) rfl ?_); refine bx 2 #[.string a0_0, .string a0_1, .slice A0_2 l0_2.length c0_2] 81 ?_; intro gb295 hg w7 hbox hb; have BK295 := ak hbox; have GW295 := gs hg bl; have GE295 := gs hg bl; replace HB := ak (below_step bl hb); clear hb hbox hg) | ((with_reducible refine gate_dst (N := 3) rfl ?_); refine bx 3 #[.string a1_0, .string a1_1, .slice A1_2 l1_2.length c1_2] 81 ?_; intro gb296 hg w8 hbox hb; have BK296 := ak hbox; have GW296 := gs hg (bl1 GE295); have GE296 := gs hg (bl1 GE295); replace HB := ak (below_step (bl1 GE295) hb); have NB295_296 := nl hg BK295; have NB296_295 := ng hg BK295; replace BK295 := bb BK295 hb; clear hb hbox hg; have hnb9 := NB295_296.out; have hnc9 := NB296_295.out; obtain ⟨hcz10_0, hcz10_1, hcz10_2, hfz10_0, hfz10_1, hfz10_2⟩ := cz3 BK295; obtain ⟨hcz11_0, hcz11_1, hcz11_2, hfz11_0, hfz11_1, hfz11_2⟩ := cz3 BK296) | ((with_reducible refine gate_callee (f := 136) rfl ?_); refine gl (some 19) Try.func136 #[.slice A0_2 l0_2.length c0_2, .slice A1_2 l1_2.length c1_2] ?_; (with_reducible refine (laws_eqPointS.calls k _ _ l0_2 _ _ l1_2 true _ ?side1 ?side2 ?side3 ?side4 A5.out).mono ?_); (case side1 => exact cb HR0_2); (case side2 => exact HC0_2.out); (case side3 => exact cb HR1_2); (case side4 => exact HC1_2.out); rintro e w12 ⟨rfl, hb⟩; refine ⟨_, rfl, ?_⟩; replace BK295 := bb BK295 hb; replace BK296 := bb BK296 hb; replace HB := ak (below_step (bl2 GE295 GE296) hb); (try clear hb); (try clear hb2); (try clear hk); (try clear hi)))
       go_ret
       exact ⟨ew, bl2 GE295 GE296⟩
     · replace c6 := Bool.eq_false_iff.mpr c6
       subst c6
       replace H := iF H
       obtain rfl := Option.some.inj H
       go_enter Try.func81, Try.ntmps81
       go_wp2_with (first | ((with_reducible refine gate_dst (N := 2) rfl ?_); refine bx 2 #[.string a0_0, .string a0_1, .slice A0_2 l0_2.length c0_2] 81 ?_; intro gb295 hg w13 hbox hb; have BK295 := ak hbox; have GW295 := gs hg bl; have GE295 := gs hg bl; replace HB := ak (below_step bl hb); clear hb hbox hg) | ((with_reducible refine gate_dst (N := 3) rfl ?_); refine bx 3 #[.string a1_0, .string a1_1, .slice A1_2 l1_2.length c1_2] 81 ?_; intro gb296 hg w14 hbox hb; have BK296 := ak hbox; have GW296 := gs hg (bl1 GE295); have GE296 := gs hg (bl1 GE295); replace HB := ak (below_step (bl1 GE295) hb); have NB295_296 := nl hg BK295; have NB296_295 := ng hg BK295; replace BK295 := bb BK295 hb; clear hb hbox hg; have hnb15 := NB295_296.out; have hnc15 := NB296_295.out; obtain ⟨hcz16_0, hcz16_1, hcz16_2, hfz16_0, hfz16_1, hfz16_2⟩ := cz3 BK295; obtain ⟨hcz17_0, hcz17_1, hcz17_2, hfz17_0, hfz17_1, hfz17_2⟩ := cz3 BK296) | ((with_reducible refine gate_callee (f := 136) rfl ?_); refine gl (some 19) Try.func136 #[.slice A0_2 l0_2.length c0_2, .slice A1_2 l1_2.length c1_2] ?_; (with_reducible refine (laws_eqPointS.calls k _ _ l0_2 _ _ l1_2 false _ ?side1 ?side2 ?side3 ?side4 A5.out).mono ?_); (case side1 => exact cb HR0_2); (case side2 => exact HC0_2.out); (case side3 => exact cb HR1_2); (case side4 => exact HC1_2.out); rintro e w18 ⟨rfl, hb⟩; refine ⟨_, rfl, ?_⟩; replace BK295 := bb BK295 hb; replace BK296 := bb BK296 hb; replace HB := ak (below_step (bl2 GE295 GE296) hb); (try clear hb); (try clear hb2); (try clear hk); (try clear hi)))
       go_ret
       exact ⟨ew, bl2 GE295 GE296⟩
   · rw [if_neg c4] at H
     have c4b0 : (a0_1.toList == a1_1.toList) = false := beq_eq_false_iff_ne.mpr c4
     have c4b1 : (a0_1.toList != a1_1.toList) = true := bne_iff_ne.mpr c4
     obtain rfl := Option.some.inj H
     go_enter Try.func81, Try.ntmps81
     go_wp2_with (first | ((with_reducible refine gate_dst (N := 2) rfl ?_); refine bx 2 #[.string a0_0, .string a0_1, .slice A0_2 l0_2.length c0_2] 81 ?_; intro gb295 hg w19 hbox hb; have BK295 := ak hbox; have GW295 := gs hg bl; have GE295 := gs hg bl; replace HB := ak (below_step bl hb); clear hb hbox hg) | ((with_reducible refine gate_dst (N := 3) rfl ?_); refine bx 3 #[.string a1_0, .string a1_1, .slice A1_2 l1_2.length c1_2] 81 ?_; intro gb296 hg w20 hbox hb; have BK296 := ak hbox; have GW296 := gs hg (bl1 GE295); have GE296 := gs hg (bl1 GE295); replace HB := ak (below_step (bl1 GE295) hb); have NB295_296 := nl hg BK295; have NB296_295 := ng hg BK295; replace BK295 := bb BK295 hb; clear hb hbox hg; have hnb21 := NB295_296.out; have hnc21 := NB296_295.out; obtain ⟨hcz22_0, hcz22_1, hcz22_2, hfz22_0, hfz22_1, hfz22_2⟩ := cz3 BK295; obtain ⟨hcz23_0, hcz23_1, hcz23_2, hfz23_0, hfz23_1, hfz23_2⟩ := cz3 BK296))
     go_ret
     exact ⟨ew, bl2 GE295 GE296⟩
 · rw [if_neg c3] at H
   have c3b0 : (a0_0.toList == a1_0.toList) = false := beq_eq_false_iff_ne.mpr c3
   have c3b1 : (a0_0.toList != a1_0.toList) = true := bne_iff_ne.mpr c3
   obtain rfl := Option.some.inj H
   go_enter Try.func81, Try.ntmps81
   go_wp2_with (first | ((with_reducible refine gate_dst (N := 2) rfl ?_); refine bx 2 #[.string a0_0, .string a0_1, .slice A0_2 l0_2.length c0_2] 81 ?_; intro gb295 hg w24 hbox hb; have BK295 := ak hbox; have GW295 := gs hg bl; have GE295 := gs hg bl; replace HB := ak (below_step bl hb); clear hb hbox hg) | ((with_reducible refine gate_dst (N := 3) rfl ?_); refine bx 3 #[.string a1_0, .string a1_1, .slice A1_2 l1_2.length c1_2] 81 ?_; intro gb296 hg w25 hbox hb; have BK296 := ak hbox; have GW296 := gs hg (bl1 GE295); have GE296 := gs hg (bl1 GE295); replace HB := ak (below_step (bl1 GE295) hb); have NB295_296 := nl hg BK295; have NB296_295 := ng hg BK295; replace BK295 := bb BK295 hb; clear hb hbox hg; have hnb26 := NB295_296.out; have hnc26 := NB296_295.out; obtain ⟨hcz27_0, hcz27_1, hcz27_2, hfz27_0, hfz27_1, hfz27_2⟩ := cz3 BK295; obtain ⟨hcz28_0, hcz28_1, hcz28_2, hfz28_0, hfz28_1, hfz28_2⟩ := cz3 BK296))
   go_ret
   exact ⟨ew, bl2 GE295 GE296⟩

end Go.Proofs.Ytplekidnlofioaa.Q
namespace Go.Proofs.Ytplekidnlofioaa.Q
open Go.RowKit Go.Proofs.YtplekidnlofioaaW.PrintWords Go.Proofs.YtplekidnlofioaaW.PrintLast Go.Proofs.YtplekidnlofioaaW.PrintMore
attribute [local go_sem] max2_int min2_int max_two min_two max_three min_three max_four min_four   -- for this text's walks alone
set_option linter.unusedVariables false
set_option linter.unusedSimpArgs false

/-! ### laws_eqSeriesS: function 24 -/
def laws_eqSeriesS.l0 : Nat → List (S81) → List (S81) → Int → Option (Bool)
 | 0, _, _, _ => none
 | k + 1, x0, x1, x5 => if x5 < (x0.length : Int) then (if 0 ≤ x5 then (if x5 < (x1.length : Int) then ((laws_eqSeries.f k ((rd_T81 x0 x5).f0) ((rd_T81 x0 x5).f1) ((rd_T81 x0 x5).f2) ((rd_T81 x1 x5).f0) ((rd_T81 x1 x5).f1) ((rd_T81 x1 x5).f2)).bind fun t300 => (if t300 = true then (laws_eqSeriesS.l0 k x0 x1 (wrap64 (x5 + 1))) else (some false))) else (none)) else (none)) else (some true)
def laws_eqSeriesS.f (k : Nat) (l0 : List (S81)) (l1 : List (S81)) : Option (Bool) := if (l0.length : Int) = (l1.length : Int) then (laws_eqSeriesS.l0 k l0 l1 0) else (some false)
theorem laws_eqSeriesS.mono_l : ∀ k, (∀ y0 y1 y2, LeO (laws_eqSeriesS.l0 k y0 y1 y2) (laws_eqSeriesS.l0 (k + 1) y0 y1 y2))
 | 0 => fun _ _ _ r h => by simp [laws_eqSeriesS.l0] at h
 | k + 1 => by
  have ih0 := laws_eqSeriesS.mono_l k
  · intro y0 y1 y2
    unfold laws_eqSeriesS.l0
    repeat' first
    | (with_reducible exact ih0 _ _ _)
    | (with_reducible exact laws_eqSeries.mono _ _ _ _ _ _ _)
    | (with_reducible exact LeO.refl _)
    | (with_reducible exact LeO.none _)
    | (with_reducible refine LeO.ite ?_ ?_)
    | (with_reducible refine LeO.bind ?_ (fun _ => ?_))
    | exact ih0 _ _ _
    | exact laws_eqSeries.mono _ _ _ _ _ _ _
    | exact LeO.none _
    | refine LeO.ite ?_ ?_
    | refine LeO.bind ?_ (fun _ => ?_)
theorem laws_eqSeriesS.mono : ∀ a0 a1 k, LeO (laws_eqSeriesS.f k a0 a1) (laws_eqSeriesS.f (k + 1) a0 a1) := by
 intro a0 a1 k
 have ih0 := laws_eqSeriesS.mono_l k
 unfold laws_eqSeriesS.f
 repeat' first
  | (with_reducible exact ih0 _ _ _)
  | (with_reducible exact laws_eqSeries.mono _ _ _ _ _ _ _)
  | (with_reducible exact LeO.refl _)
  | (with_reducible exact LeO.none _)
  | (with_reducible refine LeO.ite ?_ ?_)
  | (with_reducible refine LeO.bind ?_ (fun _ => ?_))
  | exact ih0 _ _ _
  | exact laws_eqSeries.mono _ _ _ _ _ _ _
  | exact LeO.none _
  | refine LeO.ite ?_ ?_
  | refine LeO.bind ?_ (fun _ => ?_)
def laws_eqSeriesS.T6 : Bool × List (List Nat × List Nat) := (true, [([], []), ([], []), ([0, 1], [0, 1]), ([2], [2]), ([], []), ([], []), ([4, 5], [4, 5]), ([6], [6]), ([3, 7], [3, 7]), ([8], [8])])
def laws_eqSeriesS.B6 : List Nat := [0, 0, 3, 7, 0, 0, 48, 112, 255, 511]
theorem laws_eqSeriesS.tab6 : rtab .any (opsOf Try.f24 6) = laws_eqSeriesS.T6 := by kernel_rfl
theorem laws_eqSeriesS.bits6 : waitsOk laws_eqSeriesS.T6.2 laws_eqSeriesS.B6 = true := by kernel_rfl
set_option maxHeartbeats 8000000 in
set_option maxRecDepth 100000 in
theorem laws_eqSeriesS.calls (k : Nat) (A0 : Option Addr) (c0 : Nat) (l0 : List (S81)) (A1 : Option Addr) (c1 : Nat) (l1 : List (S81)) (r : Bool) (w : World) (hr0 : Kd.C k81 w A0 l0.length l0) (hc0 : l0.length ≤ c0) (hr1 : Kd.C k81 w A1 l1.length l1) (hc1 : l1.length ≤ c1) (h : laws_eqSeriesS.f k l0 l1 = some r) :
 Calls Try.prog 24 #[.slice A0 l0.length c0, .slice A1 l1.length c1] w fun e w' => e = .returned (.bool r) ∧ Below w.heap.size w w' := by
 have hu81 := Try.underlying81
 have HR0 := Aside0.mk hr0
 have HC0 := Aside0.mk hc0
 clear hr0 hc0
 have HR1 := Aside0.mk hr1
 have HC1 := Aside0.mk hc1
 clear hr1 hc1
 have HB := Aside0.mk (Below.refl w.heap.size w)
 have H : (if (l0.length : Int) = (l1.length : Int) then (laws_eqSeriesS.l0 k l0 l1 0) else (some false)) = some r := h
 clear h
 by_cases c3 : (l0.length : Int) = (l1.length : Int)
 · rw [if_pos c3] at H
   have c3b0 : ((l0.length : Int) == (l1.length : Int)) = true := beq_iff_eq.mpr c3
   have c3b1 : ((l0.length : Int) != (l1.length : Int)) = false := bne_eq_false_iff_eq.mpr c3
   have c3b2 : (l0.length == l1.length) = true := by first | simpa using c3 | (simp at c3 ⊢; omega)
   clear c3
   have H' := Aside0.mk H
   clear H
   go_enter Try.func24, Try.ntmps24
   go_wp2
   go_loopg [5] k (fun kq v5 w' => ∃ (x5_1 : Int), v5 = .int .i64 x5_1 ∧ Aside0 (laws_eqSeriesS.l0 kq l0 l1 x5_1 = some r) ∧ Aside0 (kq ≤ k) ∧ Aside0 (Below w.heap.size w w'))
   case atStart => exact ⟨(0), es, H', ⟨Nat.le_refl _⟩, ⟨bl⟩⟩
   case round =>
    clear H'
    try clear c1
    try clear c2
    try clear p2
    try clear c3
    try clear c3b0
    try clear c3b1
    try clear c3b2
    obtain ⟨x5_1, rfl, HA, HK1, HB⟩ := hrel
    cases gk with
    | zero => exact absurd HA.out (by simp [laws_eqSeriesS.l0])
    | succ k1 =>
     have H := HA.out
     clear HA
     simp only [laws_eqSeriesS.l0] at H
     by_cases c4 : x5_1 < (l0.length : Int)
     · rw [if_pos c4] at H
       have c4b0 : decide (x5_1 < (l0.length : Int)) = true := decide_eq_true c4
       clear c4
       by_cases c5 : 0 ≤ x5_1
       · rw [if_pos c5] at H
         have c5b0 : decide (0 ≤ x5_1) = true := decide_eq_true c5
         clear c5
         by_cases c6 : x5_1 < (l1.length : Int)
         · rw [if_pos c6] at H
           have c6b0 : decide (x5_1 < (l1.length : Int)) = true := decide_eq_true c6
           clear c6
           obtain ⟨t300, A70, H⟩ := bo H
           have A7 := Aside0.mk A70
           clear A70
           by_cases c8 : t300 = true
           · subst c8
             replace H := iT H
             have H' := Aside0.mk H
             clear H
             try go_wp2
             replace HB := ak (below_drew1 HB.out)
             have p298 : 0 ≤ (x5_1 : Int) := of_decide_eq_true am
             have q298 : x5_1 < (l0.length : Int) := of_decide_eq_true am
             obtain ⟨ad298, A298_2, c298_2, e298, hx298_0, hx298_1, hx298_2, hl298_2, hi298_2⟩ := at_T81 HR0.out x5_1 p298 q298
             have hw298_2 := hx298_2
             have hw298_1 := hx298_1
             have hw298_0 := hx298_0
             cases e298
             replace hx298_0 := cw hx298_0
             replace hx298_1 := cw hx298_1
             replace hx298_2 := cw hx298_2
             have HR298_2 := Aside0.mk hi298_2
             have HC298_2 := Aside0.mk hl298_2
             clear hi298_2 hl298_2
             replace p298 := eq_true p298
             replace q298 := eq_true q298
             have p299 : 0 ≤ (x5_1 : Int) := of_decide_eq_true am
             have q299 : x5_1 < (l1.length : Int) := of_decide_eq_true am
             obtain ⟨ad299, A299_2, c299_2, e299, hx299_0, hx299_1, hx299_2, hl299_2, hi299_2⟩ := at_T81 HR1.out x5_1 p299 q299
             have hw299_2 := hx299_2
             have hw299_1 := hx299_1
             have hw299_0 := hx299_0
             cases e299
             replace hx299_0 := cw hx299_0
             replace hx299_1 := cw hx299_1
             replace hx299_2 := cw hx299_2
             have HR299_2 := Aside0.mk hi299_2
             have HC299_2 := Aside0.mk hl299_2
             clear hi299_2 hl299_2
             replace p299 := eq_true p299
             replace q299 := eq_true q299
             refine start_ (n := 10) (S := fun w' => w'.cell? (ad298.add ((x5_1).toNat * 3)) = some (.string ((rd_T81 l0 x5_1).f0)) ∧ w'.cell? ⟨(ad298.add ((x5_1).toNat * 3)).block, (ad298.add ((x5_1).toNat * 3)).off + 1, none⟩ = some (.string ((rd_T81 l0 x5_1).f1)) ∧ w'.cell? ⟨(ad298.add ((x5_1).toNat * 3)).block, (ad298.add ((x5_1).toNat * 3)).off + 2, none⟩ = some (.slice A298_2 ((rd_T81 l0 x5_1).f2).length c298_2) ∧ w'.cell? (ad299.add ((x5_1).toNat * 3)) = some (.string ((rd_T81 l1 x5_1).f0)) ∧ w'.cell? ⟨(ad299.add ((x5_1).toNat * 3)).block, (ad299.add ((x5_1).toNat * 3)).off + 1, none⟩ = some (.string ((rd_T81 l1 x5_1).f1)) ∧ w'.cell? ⟨(ad299.add ((x5_1).toNat * 3)).block, (ad299.add ((x5_1).toNat * 3)).off + 2, none⟩ = some (.slice A299_2 ((rd_T81 l1 x5_1).f2).length c299_2)) (ds := []) (bitsA 10 0) (by kernel_rfl) rfl rfl ⟨(cw hw298_0), (cw hw298_1), (cw hw298_2), (cw hw299_0), (cw hw299_1), (cw hw299_2)⟩ (fun hHeld => ?_); refine with_tabW laws_eqSeriesS.tab6 laws_eqSeriesS.bits6 (fun HT_ HW_ => ?_)
             generalize wr.drew = w9 at HB HR298_2 HR299_2 hx298_0 hx298_1 hx298_2 hx299_0 hx299_1 hx299_2 hHeld ⊢
             refine pu 0 (some 17) (bitsA 10 1) ?_
             refine pu 1 (some 18) (bitsA 10 3) ?_
             refine pu 2 (some 19) (bitsA 10 7) ?_
             refine tk 3 (some 20) (bitsA 10 15) hHeld ?_ (hy := Or.inl ⟨by rfl, by rintro w' ⟨s0, s1, s2, s3, s4, s5⟩; go_simp; with_reducible rfl⟩)
             refine pu 4 (some 21) (bitsA 10 31) ?_
             refine pu 5 (some 22) (bitsA 10 63) ?_
             refine pu 6 (some 23) (bitsA 10 127) ?_
             refine tk 7 (some 24) (bitsA 10 255) hHeld ?_ (hy := Or.inl ⟨by rfl, by rintro w' ⟨s0, s1, s2, s3, s4, s5⟩; go_simp; with_reducible rfl⟩)
             refine one_ (i := 8) (N := some 25) (bitsA 10 511) rfl rfl (one_of HT_.out (by kernel_rfl)) (by decide) (fun K hK => ?_)
             refine goes_ Try.func81 (by kernel_rfl) rfl #[.agg #[.string ((rd_T81 l0 x5_1).f0), .string ((rd_T81 l0 x5_1).f1), .slice A298_2 ((rd_T81 l0 x5_1).f2).length c298_2], .agg #[.string ((rd_T81 l1 x5_1).f0), .string ((rd_T81 l1 x5_1).f1), .slice A299_2 ((rd_T81 l1 x5_1).f2).length c299_2]] (by rfl) rfl rfl mt ?_
             with_reducible refine (laws_eqSeries.calls k1 ((rd_T81 l0 x5_1).f0) ((rd_T81 l0 x5_1).f1) _ _ ((rd_T81 l0 x5_1).f2) ((rd_T81 l1 x5_1).f0) ((rd_T81 l1 x5_1).f1) _ _ ((rd_T81 l1 x5_1).f2) true _ ?side1 ?side2 ?side3 ?side4 A7.out).mono ?_
             (case side1 => exact cb HR298_2)
             (case side2 => exact HC298_2.out)
             (case side3 => exact cb HR299_2)
             (case side4 => exact HC299_2.out)
             rintro e w10 ⟨rfl, hb⟩
             refine ⟨_, rfl, ?_⟩
             replace HB := ak (below_step bl hb)
             (try clear hb)
             (try clear hb2)
             (try clear hk)
             (try clear hi)
             refine hK.out _ _ ⟨(cw hw298_0), (cw hw298_1), (cw hw298_2), (cw hw299_0), (cw hw299_1), (cw hw299_2)⟩ (fun hHeld => ?_)
             clear hK K
             refine nm ?_
             refine pu 9 (some 26) (bitsA 10 1023) ?_
             refine done_ (done_of HT_.out (by kernel_rfl)) ?_
             try go_wp2
             go_roundg k1
             case measure => have := HK1.out; omega
             case rel => exact ⟨(wrap64 (x5_1 + 1)), es, H', ⟨kp⟩, ⟨bl⟩⟩
           · replace c8 := Bool.eq_false_iff.mpr c8
             subst c8
             replace H := iF H
             obtain rfl := Option.some.inj H
             try go_wp2
             replace HB := ak (below_drew1 HB.out)
             have p298 : 0 ≤ (x5_1 : Int) := of_decide_eq_true am
             have q298 : x5_1 < (l0.length : Int) := of_decide_eq_true am
             obtain ⟨ad298, A298_2, c298_2, e298, hx298_0, hx298_1, hx298_2, hl298_2, hi298_2⟩ := at_T81 HR0.out x5_1 p298 q298
             have hw298_2 := hx298_2
             have hw298_1 := hx298_1
             have hw298_0 := hx298_0
             cases e298
             replace hx298_0 := cw hx298_0
             replace hx298_1 := cw hx298_1
             replace hx298_2 := cw hx298_2
             have HR298_2 := Aside0.mk hi298_2
             have HC298_2 := Aside0.mk hl298_2
             clear hi298_2 hl298_2
             replace p298 := eq_true p298
             replace q298 := eq_true q298
             have p299 : 0 ≤ (x5_1 : Int) := of_decide_eq_true am
             have q299 : x5_1 < (l1.length : Int) := of_decide_eq_true am
             obtain ⟨ad299, A299_2, c299_2, e299, hx299_0, hx299_1, hx299_2, hl299_2, hi299_2⟩ := at_T81 HR1.out x5_1 p299 q299
             have hw299_2 := hx299_2
             have hw299_1 := hx299_1
             have hw299_0 := hx299_0
             cases e299
             replace hx299_0 := cw hx299_0
             replace hx299_1 := cw hx299_1
             replace hx299_2 := cw hx299_2
             have HR299_2 := Aside0.mk hi299_2
             have HC299_2 := Aside0.mk hl299_2
             clear hi299_2 hl299_2
             replace p299 := eq_true p299
             replace q299 := eq_true q299
             refine start_ (n := 10) (S := fun w' => w'.cell? (ad298.add ((x5_1).toNat * 3)) = some (.string ((rd_T81 l0 x5_1).f0)) ∧ w'.cell? ⟨(ad298.add ((x5_1).toNat * 3)).block, (ad298.add ((x5_1).toNat * 3)).off + 1, none⟩ = some (.string ((rd_T81 l0 x5_1).f1)) ∧ w'.cell? ⟨(ad298.add ((x5_1).toNat * 3)).block, (ad298.add ((x5_1).toNat * 3)).off + 2, none⟩ = some (.slice A298_2 ((rd_T81 l0 x5_1).f2).length c298_2) ∧ w'.cell? (ad299.add ((x5_1).toNat * 3)) = some (.string ((rd_T81 l1 x5_1).f0)) ∧ w'.cell? ⟨(ad299.add ((x5_1).toNat * 3)).block, (ad299.add ((x5_1).toNat * 3)).off + 1, none⟩ = some (.string ((rd_T81 l1 x5_1).f1)) ∧ w'.cell? ⟨(ad299.add ((x5_1).toNat * 3)).block, (ad299.add ((x5_1).toNat * 3)).off + 2, none⟩ = some (.slice A299_2 ((rd_T81 l1 x5_1).f2).length c299_2)) (ds := []) (bitsA 10 0) (by kernel_rfl) rfl rfl ⟨(cw hw298_0), (cw hw298_1), (cw hw298_2), (cw hw299_0), (cw hw299_1), (cw hw299_2)⟩ (fun hHeld => ?_); refine with_tabW laws_eqSeriesS.tab6 laws_eqSeriesS.bits6 (fun HT_ HW_ => ?_)
             generalize wr.drew = w11 at HB HR298_2 HR299_2 hx298_0 hx298_1 hx298_2 hx299_0 hx299_1 hx299_2 hHeld ⊢
             refine pu 0 (some 17) (bitsA 10 1) ?_
             refine pu 1 (some 18) (bitsA 10 3) ?_
             refine pu 2 (some 19) (bitsA 10 7) ?_
             refine tk 3 (some 20) (bitsA 10 15) hHeld ?_ (hy := Or.inl ⟨by rfl, by rintro w' ⟨s0, s1, s2, s3, s4, s5⟩; go_simp; with_reducible rfl⟩)
             refine pu 4 (some 21) (bitsA 10 31) ?_
             refine pu 5 (some 22) (bitsA 10 63) ?_
             refine pu 6 (some 23) (bitsA 10 127) ?_
             refine tk 7 (some 24) (bitsA 10 255) hHeld ?_ (hy := Or.inl ⟨by rfl, by rintro w' ⟨s0, s1, s2, s3, s4, s5⟩; go_simp; with_reducible rfl⟩)
             refine one_ (i := 8) (N := some 25) (bitsA 10 511) rfl rfl (one_of HT_.out (by kernel_rfl)) (by decide) (fun K hK => ?_)
             refine goes_ Try.func81 (by kernel_rfl) rfl #[.agg #[.string ((rd_T81 l0 x5_1).f0), .string ((rd_T81 l0 x5_1).f1), .slice A298_2 ((rd_T81 l0 x5_1).f2).length c298_2], .agg #[.string ((rd_T81 l1 x5_1).f0), .string ((rd_T81 l1 x5_1).f1), .slice A299_2 ((rd_T81 l1 x5_1).f2).length c299_2]] (by rfl) rfl rfl mt ?_
             with_reducible refine (laws_eqSeries.calls k1 ((rd_T81 l0 x5_1).f0) ((rd_T81 l0 x5_1).f1) _ _ ((rd_T81 l0 x5_1).f2) ((rd_T81 l1 x5_1).f0) ((rd_T81 l1 x5_1).f1) _ _ ((rd_T81 l1 x5_1).f2) false _ ?side1 ?side2 ?side3 ?side4 A7.out).mono ?_
             (case side1 => exact cb HR298_2)
             (case side2 => exact HC298_2.out)
             (case side3 => exact cb HR299_2)
             (case side4 => exact HC299_2.out)
             rintro e w12 ⟨rfl, hb⟩
             refine ⟨_, rfl, ?_⟩
             replace HB := ak (below_step bl hb)
             (try clear hb)
             (try clear hb2)
             (try clear hk)
             (try clear hi)
             refine hK.out _ _ ⟨(cw hw298_0), (cw hw298_1), (cw hw298_2), (cw hw299_0), (cw hw299_1), (cw hw299_2)⟩ (fun hHeld => ?_)
             clear hK K
             refine nm ?_
             refine pu 9 (some 26) (bitsA 10 1023) ?_
             refine done_ (done_of HT_.out (by kernel_rfl)) ?_
             try go_wp2
             go_ret
             exact ⟨ew, bl⟩
         · rw [if_neg c6] at H
           exact absurd H (by simp)
       · rw [if_neg c5] at H
         exact absurd H (by simp)
     · rw [if_neg c4] at H
       have c4b0 : decide (x5_1 < (l0.length : Int)) = false := decide_eq_false c4
       clear c4
       obtain rfl := Option.some.inj H
       go_wp2
       go_ret
       exact ⟨ew, bl⟩
 · rw [if_neg c3] at H
   have c3b0 : ((l0.length : Int) == (l1.length : Int)) = false := beq_eq_false_iff_ne.mpr c3
   have c3b1 : ((l0.length : Int) != (l1.length : Int)) = true := bne_iff_ne.mpr c3
   have c3b2 : (l0.length == l1.length) = false := by first | simpa using c3 | (simp at c3 ⊢; omega)
   obtain rfl := Option.some.inj H
   go_enter Try.func24, Try.ntmps24
   go_wp2
   go_ret
   exact ⟨ew, bl⟩

end Go.Proofs.Ytplekidnlofioaa.Q
namespace Go.Proofs.Ytplekidnlofioaa.Q
open Go.RowKit Go.Proofs.YtplekidnlofioaaW.PrintWords Go.Proofs.YtplekidnlofioaaW.PrintLast Go.Proofs.YtplekidnlofioaaW.PrintMore
attribute [local go_sem] max2_int min2_int max_two min_two max_three min_three max_four min_four   -- for this text's walks alone
set_option linter.unusedVariables false
set_option linter.unusedSimpArgs false

/-! ### laws_szPod: function 85 -/
def laws_szPod.f (a0_0 : ByteArray) (a0_1 : Int) (a0_2 : Int) (a0_3 : Bool) (a1 : Int) : Option (Int) := if (wrap64 (a1 - (a0_0.size : Int))) < 0 then (some (-1)) else (some (wrap64 (a1 - (a0_0.size : Int))))
set_option maxHeartbeats 8000000 in
set_option maxRecDepth 100000 in
theorem laws_szPod.calls (a0_0 : ByteArray) (a0_1 : Int) (a0_2 : Int) (a0_3 : Bool) (a1 : Int) (r : Int) (w : World) (h : laws_szPod.f a0_0 a0_1 a0_2 a0_3 a1 = some r) :
 Calls Try.prog 85 #[.agg #[.string a0_0, .int .i64 a0_1, .int .i64 a0_2, .bool a0_3], .int .i64 a1] w fun e w' => e = .returned (.int .i64 r) ∧ Below w.heap.size w w' := by
 have hu144 := Try.underlying144
 have HB := Aside0.mk (Below.refl w.heap.size w)
 have H : (if (wrap64 (a1 - (a0_0.size : Int))) < 0 then (some (-1)) else (some (wrap64 (a1 - (a0_0.size : Int))))) = some r := h
 clear h
 by_cases c3 : (wrap64 (a1 - (a0_0.size : Int))) < 0
 · rw [if_pos c3] at H
   have c3b0 : decide ((wrap64 (a1 - (a0_0.size : Int))) < 0) = true := decide_eq_true c3
   clear c3
   obtain rfl := Option.some.inj H
   go_enter Try.func85, Try.ntmps85
   go_wp2_with (first | ((with_reducible refine gate_dst (N := 2) rfl ?_); refine bx 2 #[.string a0_0, .int .i64 a0_1, .int .i64 a0_2, .bool a0_3] 144 ?_; intro gb367 hg w4 hbox hb; have BK367 := ak hbox; have GW367 := gs hg bl; have GE367 := gs hg bl; replace HB := ak (below_step bl hb); clear hb hbox hg; obtain ⟨hcz5_0, hcz5_1, hcz5_2, hcz5_3, hfz5_0, hfz5_1, hfz5_2, hfz5_3⟩ := cz4 BK367))
   go_ret
   exact ⟨ew, bl1 GE367⟩
 · rw [if_neg c3] at H
   have c3b0 : decide ((wrap64 (a1 - (a0_0.size : Int))) < 0) = false := decide_eq_false c3
   clear c3
   obtain rfl := Option.some.inj H
   go_enter Try.func85, Try.ntmps85
   go_wp2_with (first | ((with_reducible refine gate_dst (N := 2) rfl ?_); refine bx 2 #[.string a0_0, .int .i64 a0_1, .int .i64 a0_2, .bool a0_3] 144 ?_; intro gb367 hg w6 hbox hb; have BK367 := ak hbox; have GW367 := gs hg bl; have GE367 := gs hg bl; replace HB := ak (below_step bl hb); clear hb hbox hg; obtain ⟨hcz7_0, hcz7_1, hcz7_2, hcz7_3, hfz7_0, hfz7_1, hfz7_2, hfz7_3⟩ := cz4 BK367))
   go_ret
   exact ⟨ew, bl1 GE367⟩

end Go.Proofs.Ytplekidnlofioaa.Q
namespace Go.Proofs.Ytplekidnlofioaa.Q
open Go.RowKit Go.Proofs.YtplekidnlofioaaW.PrintWords Go.Proofs.YtplekidnlofioaaW.PrintLast Go.Proofs.YtplekidnlofioaaW.PrintMore
attribute [local go_sem] max2_int min2_int max_two min_two max_three min_three max_four min_four   -- for this text's walks alone
set_option linter.unusedVariables false
set_option linter.unusedSimpArgs false

/-! ### laws_szPodS: function 32 -/
def laws_szPodS.l0 : Nat → List (S144) → Int → Int → Option (Int)
 | 0, _, _, _ => none
 | k + 1, x0, x1, x5 => if x5 < (x0.length : Int) then (if 0 ≤ x5 then ((laws_szPod.f ((rd_T144 x0 x5).f0) ((rd_T144 x0 x5).f1) ((rd_T144 x0 x5).f2) ((rd_T144 x0 x5).f3) x1).bind fun t369 => (if t369 < 0 then (some (-1)) else (laws_szPodS.l0 k x0 t369 (wrap64 (x5 + 1))))) else (none)) else (some x1)
def laws_szPodS.f (k : Nat) (l0 : List (S144)) (a1 : Int) : Option (Int) := if (wrap64 (a1 - (l0.length : Int))) < 0 then (some (-1)) else (laws_szPodS.l0 k l0 (wrap64 (a1 - (l0.length : Int))) 0)
theorem laws_szPodS.mono_l : ∀ k, (∀ y0 y1 y2, LeO (laws_szPodS.l0 k y0 y1 y2) (laws_szPodS.l0 (k + 1) y0 y1 y2))
 | 0 => fun _ _ _ r h => by simp [laws_szPodS.l0] at h
 | k + 1 => by
  have ih0 := laws_szPodS.mono_l k
  · intro y0 y1 y2
    unfold laws_szPodS.l0
    repeat' first
    | (with_reducible exact ih0 _ _ _)
    | (with_reducible exact LeO.refl _)
    | (with_reducible exact LeO.none _)
    | (with_reducible refine LeO.ite ?_ ?_)
    | (with_reducible refine LeO.bind ?_ (fun _ => ?_))
    | exact ih0 _ _ _
    | exact LeO.none _
    | refine LeO.ite ?_ ?_
    | refine LeO.bind ?_ (fun _ => ?_)
theorem laws_szPodS.mono : ∀ a0 a1 k, LeO (laws_szPodS.f k a0 a1) (laws_szPodS.f (k + 1) a0 a1) := by
 intro a0 a1 k
 have ih0 := laws_szPodS.mono_l k
 unfold laws_szPodS.f
 repeat' first
  | (with_reducible exact ih0 _ _ _)
  | (with_reducible exact LeO.refl _)
  | (with_reducible exact LeO.none _)
  | (with_reducible refine LeO.ite ?_ ?_)
  | (with_reducible refine LeO.bind ?_ (fun _ => ?_))
  | exact ih0 _ _ _
  | exact LeO.none _
  | refine LeO.ite ?_ ?_
  | refine LeO.bind ?_ (fun _ => ?_)
set_option maxHeartbeats 8000000 in
set_option maxRecDepth 100000 in
theorem laws_szPodS.calls (k : Nat) (A0 : Option Addr) (c0 : Nat) (l0 : List (S144)) (a1 : Int) (r : Int) (w : World) (hr0 : Kd.C k144 w A0 l0.length l0) (hc0 : l0.length ≤ c0) (h : laws_szPodS.f k l0 a1 = some r) :
 Calls Try.prog 32 #[.slice A0 l0.length c0, .int .i64 a1] w fun e w' => e = .returned (.int .i64 r) ∧ Below w.heap.size w w' := by
 have hu144 := Try.underlying144
 have HR0 := Aside0.mk hr0
 have HC0 := Aside0.mk hc0
 clear hr0 hc0
 have HB := Aside0.mk (Below.refl w.heap.size w)
 have H : (if (wrap64 (a1 - (l0.length : Int))) < 0 then (some (-1)) else (laws_szPodS.l0 k l0 (wrap64 (a1 - (l0.length : Int))) 0)) = some r := h
 clear h
 by_cases c3 : (wrap64 (a1 - (l0.length : Int))) < 0
 · rw [if_pos c3] at H
   have c3b0 : decide ((wrap64 (a1 - (l0.length : Int))) < 0) = true := decide_eq_true c3
   clear c3
   obtain rfl := Option.some.inj H
   go_enter Try.func32, Try.ntmps32
   go_wp2
   go_ret
   exact ⟨ew, bl⟩
 · rw [if_neg c3] at H
   have c3b0 : decide ((wrap64 (a1 - (l0.length : Int))) < 0) = false := decide_eq_false c3
   clear c3
   have H' := Aside0.mk H
   clear H
   go_enter Try.func32, Try.ntmps32
   go_wp2
   go_loopg [1, 5] k (fun kq v1 v5 w' => ∃ (x1_1 : Int) (x5_1 : Int), v1 = .int .i64 x1_1 ∧ v5 = .int .i64 x5_1 ∧ Aside0 (laws_szPodS.l0 kq l0 x1_1 x5_1 = some r) ∧ Aside0 (kq ≤ k) ∧ Aside0 (Below w.heap.size w w'))
   case atStart => exact ⟨(wrap64 (a1 - (l0.length : Int))), (0), es, es, H', ⟨Nat.le_refl _⟩, ⟨bl⟩⟩
   case round =>
    clear H'
    try clear p2
    try clear c3
    try clear c3b0
    obtain ⟨x1_1, x5_1, rfl, rfl, HA, HK1, HB⟩ := hrel
    cases gk with
    | zero => exact absurd HA.out (by simp [laws_szPodS.l0])
    | succ k1 =>
     have H := HA.out
     clear HA
     simp only [laws_szPodS.l0] at H
     by_cases c4 : x5_1 < (l0.length : Int)
     · rw [if_pos c4] at H
       have c4b0 : decide (x5_1 < (l0.length : Int)) = true := decide_eq_true c4
       clear c4
       by_cases c5 : 0 ≤ x5_1
       · rw [if_pos c5] at H
         have c5b0 : decide (0 ≤ x5_1) = true := decide_eq_true c5
         clear c5
         obtain ⟨t369, A60, H⟩ := bo H
         have A6 := Aside0.mk A60
         clear A60
         by_cases c7 : t369 < 0
         · rw [if_pos c7] at H
           have c7b0 : decide (t369 < 0) = true := decide_eq_true c7
           clear c7
           obtain rfl := Option.some.inj H
           have p368 : 0 ≤ (x5_1 : Int) := of_decide_eq_true am
           have q368 : x5_1 < (l0.length : Int) := of_decide_eq_true am
           obtain ⟨ad368, e368, hx368_0, hx368_1, hx368_2, hx368_3⟩ := at_T144 HR0.out x5_1 p368 q368
           cases e368
           replace hx368_0 := cw hx368_0
           replace hx368_1 := cw hx368_1
           replace hx368_2 := cw hx368_2
           replace hx368_3 := cw hx368_3
           replace p368 := eq_true p368
           replace q368 := eq_true q368
           go_wp2_with (first | ((with_reducible refine gate_callee (f := 85) rfl ?_); refine gl (some 23) Try.func85 #[.agg #[.string ((rd_T144 l0 x5_1).f0), .int .i64 ((rd_T144 l0 x5_1).f1), .int .i64 ((rd_T144 l0 x5_1).f2), .bool ((rd_T144 l0 x5_1).f3)], .int .i64 x1_1] ?_; (with_reducible refine (laws_szPod.calls ((rd_T144 l0 x5_1).f0) ((rd_T144 l0 x5_1).f1) ((rd_T144 l0 x5_1).f2) ((rd_T144 l0 x5_1).f3) x1_1 t369 _ A6.out).mono ?_); rintro e w8 ⟨rfl, hb⟩; refine ⟨_, rfl, ?_⟩; replace HB := ak (below_step bl hb); (try clear hb); (try clear hb2); (try clear hk); (try clear hi)))
           go_ret
           exact ⟨ew, bl⟩
         · rw [if_neg c7] at H
           have c7b0 : decide (t369 < 0) = false := decide_eq_false c7
           clear c7
           have H' := Aside0.mk H
           clear H
           have p368 : 0 ≤ (x5_1 : Int) := of_decide_eq_true am
           have q368 : x5_1 < (l0.length : Int) := of_decide_eq_true am
           obtain ⟨ad368, e368, hx368_0, hx368_1, hx368_2, hx368_3⟩ := at_T144 HR0.out x5_1 p368 q368
           cases e368
           replace hx368_0 := cw hx368_0
           replace hx368_1 := cw hx368_1
           replace hx368_2 := cw hx368_2
           replace hx368_3 := cw hx368_3
           replace p368 := eq_true p368
           replace q368 := eq_true q368
           go_wp2_with (first | ((with_reducible refine gate_callee (f := 85) rfl ?_); refine gl (some 23) Try.func85 #[.agg #[.string ((rd_T144 l0 x5_1).f0), .int .i64 ((rd_T144 l0 x5_1).f1), .int .i64 ((rd_T144 l0 x5_1).f2), .bool ((rd_T144 l0 x5_1).f3)], .int .i64 x1_1] ?_; (with_reducible refine (laws_szPod.calls ((rd_T144 l0 x5_1).f0) ((rd_T144 l0 x5_1).f1) ((rd_T144 l0 x5_1).f2) ((rd_T144 l0 x5_1).f3) x1_1 t369 _ A6.out).mono ?_); rintro e w9 ⟨rfl, hb⟩; refine ⟨_, rfl, ?_⟩; replace HB := ak (below_step bl hb); (try clear hb); (try clear hb2); (try clear hk); (try clear hi)))
           go_roundg k1
           case measure => have := HK1.out; omega
           case rel => exact ⟨(t369), (wrap64 (x5_1 + 1)), es, es, H', ⟨kp⟩, ⟨bl⟩⟩
       · rw [if_neg c5] at H
         exact absurd H (by simp)
     · rw [if_neg c4] at H
       have c4b0 : decide (x5_1 < (l0.length : Int)) = false := decide_eq_false c4
       clear c4
       obtain rfl := Option.some.inj H
       go_wp2
       go_ret
       exact ⟨ew, bl⟩

end Go.Proofs.Ytplekidnlofioaa.Q
namespace Go.Proofs.Ytplekidnlofioaa.Q
open Go.RowKit Go.Proofs.YtplekidnlofioaaW.PrintWords Go.Proofs.YtplekidnlofioaaW.PrintLast Go.Proofs.YtplekidnlofioaaW.PrintMore
attribute [local go_sem] max2_int min2_int max_two min_two max_three min_three max_four min_four   -- for this text's walks alone
set_option linter.unusedVariables false
set_option linter.unusedSimpArgs false

/-! ### laws_toPod: function 88 -/
def laws_toPod.f (a0_0 : ByteArray) (a0_1 : Int) (a0_2 : Int) (a0_3 : Bool) : Option (ByteArray × Int × Int × Bool) := some (a0_0, a0_1, a0_2, a0_3)
set_option maxHeartbeats 8000000 in
set_option maxRecDepth 100000 in
theorem laws_toPod.calls (a0_0 : ByteArray) (a0_1 : Int) (a0_2 : Int) (a0_3 : Bool) (r1 : ByteArray) (r2 : Int) (r3 : Int) (r4 : Bool) (w : World) (h : laws_toPod.f a0_0 a0_1 a0_2 a0_3 = some (r1, r2, r3, r4)) :
 Calls Try.prog 88 #[.agg #[.string a0_0, .int .i64 a0_1, .int .i64 a0_2, .bool a0_3]] w fun e w' => e = .returned (.agg #[.string r1, .int .i64 r2, .int .i64 r3, .bool r4]) ∧ Below w.heap.size w w' := by
 have hu144 := Try.underlying144
 have hu147 := Try.underlying147
 have HB := Aside0.mk (Below.refl w.heap.size w)
 have H : (some (a0_0, a0_1, a0_2, a0_3)) = some (r1, r2, r3, r4) := h
 clear h
 simp only [Option.some.injEq, Prod.mk.injEq] at H
 obtain ⟨rfl, rfl, rfl, rfl⟩ := H
 go_enter Try.func88, Try.ntmps88
 go_wp2_with (first | ((with_reducible refine gate_dst (N := 1) rfl ?_); refine bx 1 #[.string a0_0, .int .i64 a0_1, .int .i64 a0_2, .bool a0_3] 144 ?_; intro gb417 hg w2 hbox hb; have BK417 := ak hbox; have GW417 := gs hg bl; have GE417 := gs hg bl; replace HB := ak (below_step bl hb); clear hb hbox hg) | ((with_reducible refine gate_dst (N := 2) rfl ?_); refine bx 2 #[.string (⟨#[]⟩ : ByteArray), .int .i64 0, .int .i64 0, .bool false] 147 ?_; intro gb418 hg w3 hbox hb; have BK418 := ak hbox; have GW418 := gs hg (bl1 GE417); have GE418 := gs hg (bl1 GE417); replace HB := ak (below_step (bl1 GE417) hb); have NB417_418 := nl hg BK417; have NB418_417 := ng hg BK417; replace BK417 := bb BK417 hb; clear hb hbox hg) | ((with_reducible refine gate_dst (N := 3) rfl ?_); refine bx 3 #[.string (⟨#[]⟩ : ByteArray), .int .i64 0, .int .i64 0, .bool false] 147 ?_; intro gb419 hg w4 hbox hb; have BK419 := ak hbox; have GW419 := gs hg (bl2 GE417 GE418); have GE419 := gs hg (bl2 GE417 GE418); replace HB := ak (below_step (bl2 GE417 GE418) hb); have NB417_419 := nl hg BK417; have NB419_417 := ng hg BK417; replace BK417 := bb BK417 hb; have NB418_419 := nl hg BK418; have NB419_418 := ng hg BK418; replace BK418 := bb BK418 hb; clear hb hbox hg; have hnb5 := NB417_418.out; have hnc5 := NB418_417.out; have hnb6 := NB417_419.out; have hnc6 := NB419_417.out; obtain ⟨hcz7_0, hcz7_1, hcz7_2, hcz7_3, hfz7_0, hfz7_1, hfz7_2, hfz7_3⟩ := cz4 BK417; have hnb8 := NB419_418.out; have hnc8 := NB418_419.out; obtain ⟨hcz9_0, hcz9_1, hcz9_2, hcz9_3, hfz9_0, hfz9_1, hfz9_2, hfz9_3⟩ := cz4 BK419; obtain ⟨hcz10_0, hcz10_1, hcz10_2, hcz10_3, hfz10_0, hfz10_1, hfz10_2, hfz10_3⟩ := cz4 BK418))
 refine bodyPost_ret (results_cell_row rfl _ _ gb418 147 #[.string a0_0, .int .i64 a0_1, .int .i64 a0_2, .bool a0_3] (0, 0) _ rfl (by (with_reducible repeat (first | refine blk_drewN ?_ _ | refine blk_drew ?_ | refine blk_alloc ?_ _)); refine blk_put (cs := #[.string a0_0, .int .i64 a0_1, .int .i64 a0_2, .bool false]) ?_ 3 _ rfl; (with_reducible repeat (first | refine blk_drewN ?_ _ | refine blk_drew ?_ | refine blk_alloc ?_ _)); refine blk_put (cs := #[.string a0_0, .int .i64 a0_1, .int .i64 0, .bool false]) ?_ 2 _ rfl; (with_reducible repeat (first | refine blk_drewN ?_ _ | refine blk_drew ?_ | refine blk_alloc ?_ _)); refine blk_put (cs := #[.string a0_0, .int .i64 0, .int .i64 0, .bool false]) ?_ 1 _ rfl; (with_reducible repeat (first | refine blk_drewN ?_ _ | refine blk_drew ?_ | refine blk_alloc ?_ _)); refine blk_put (cs := #[.string (⟨#[]⟩ : ByteArray), .int .i64 0, .int .i64 0, .bool false]) ?_ 0 _ rfl; (with_reducible repeat (first | refine blk_drewN ?_ _ | refine blk_drew ?_ | refine blk_alloc ?_ _)); refine blk_far ?_ NB418_419.out _; (with_reducible repeat (first | refine blk_drewN ?_ _ | refine blk_drew ?_ | refine blk_alloc ?_ _)); refine blk_far ?_ NB418_419.out _; (with_reducible repeat (first | refine blk_drewN ?_ _ | refine blk_drew ?_ | refine blk_alloc ?_ _)); refine blk_far ?_ NB418_419.out _; (with_reducible repeat (first | refine blk_drewN ?_ _ | refine blk_drew ?_ | refine blk_alloc ?_ _)); refine blk_far ?_ NB418_419.out _; (with_reducible repeat (first | refine blk_drewN ?_ _ | refine blk_drew ?_ | refine blk_alloc ?_ _)); exact BK418.out) Try.underlying147 rfl (by kernel_rfl)) rfl ?_
 exact ⟨ew, bl3 GE417 GE418 GE419⟩

end Go.Proofs.Ytplekidnlofioaa.Q
namespace Go.Proofs.Ytplekidnlofioaa.Q
open Go.RowKit Go.Proofs.YtplekidnlofioaaW.PrintWords Go.Proofs.YtplekidnlofioaaW.PrintLast Go.Proofs.YtplekidnlofioaaW.PrintMore
attribute [local go_sem] max2_int min2_int max_two min_two max_three min_three max_four min_four   -- for this text's walks alone
set_option linter.unusedVariables false
set_option linter.unusedSimpArgs false

/-! ### laws_toPodS: function 34 -/
def laws_toPodS.l0 : Nat → List (S144) → List (S147) → Int → Option ((List (S147)))
 | 0, _, _, _ => none
 | k + 1, x0, x3, x4 => if x4 < (x0.length : Int) then (if 0 ≤ x4 then ((laws_toPod.f ((rd_T144 x0 x4).f0) ((rd_T144 x0 x4).f1) ((rd_T144 x0 x4).f2) ((rd_T144 x0 x4).f3)).bind fun bt424 => (if x4 < (x3.length : Int) then (laws_toPodS.l0 k x0 (x3.set (x4 : Int).toNat (⟨bt424.1, bt424.2.1, bt424.2.2.1, bt424.2.2.2⟩ : S147)) (wrap64 (x4 + 1))) else (none))) else (none)) else (some x3)
def laws_toPodS.f (k : Nat) (l0 : List (S144)) : Option ((List (S147))) := if 0 ≤ (l0.length : Int) then (if ((l0.length : Int) : Int).toNat ≤ 7036874417766 then (laws_toPodS.l0 k l0 (List.replicate ((l0.length : Int) : Int).toNat z147) 0) else (none)) else (none)
theorem laws_toPodS.mono_l : ∀ k, (∀ y0 y1 y2, LeO (laws_toPodS.l0 k y0 y1 y2) (laws_toPodS.l0 (k + 1) y0 y1 y2))
 | 0 => fun _ _ _ r h => by simp [laws_toPodS.l0] at h
 | k + 1 => by
  have ih0 := laws_toPodS.mono_l k
  · intro y0 y1 y2
    unfold laws_toPodS.l0
    repeat' first
    | (with_reducible exact ih0 _ _ _)
    | (with_reducible exact LeO.refl _)
    | (with_reducible exact LeO.none _)
    | (with_reducible refine LeO.ite ?_ ?_)
    | (with_reducible refine LeO.bind ?_ (fun _ => ?_))
    | exact ih0 _ _ _
    | exact LeO.none _
    | refine LeO.ite ?_ ?_
    | refine LeO.bind ?_ (fun _ => ?_)
theorem laws_toPodS.mono : ∀ a0 k, LeO (laws_toPodS.f k a0) (laws_toPodS.f (k + 1) a0) := by
 intro a0 k
 have ih0 := laws_toPodS.mono_l k
 unfold laws_toPodS.f
 repeat' first
  | (with_reducible exact ih0 _ _ _)
  | (with_reducible exact LeO.refl _)
  | (with_reducible exact LeO.none _)
  | (with_reducible refine LeO.ite ?_ ?_)
  | (with_reducible refine LeO.bind ?_ (fun _ => ?_))
  | exact ih0 _ _ _
  | exact LeO.none _
  | refine LeO.ite ?_ ?_
  | refine LeO.bind ?_ (fun _ => ?_)
set_option maxHeartbeats 8000000 in
set_option maxRecDepth 100000 in
theorem laws_toPodS.calls (k : Nat) (A0 : Option Addr) (c0 : Nat) (l0 : List (S144)) (r : List (S147)) (w : World) (hr0 : Kd.C k144 w A0 l0.length l0) (hc0 : l0.length ≤ c0) (h : laws_toPodS.f k l0 = some r) :
 Calls Try.prog 34 #[.slice A0 l0.length c0] w fun e w' => ∃ v0_ : Value, e = .returned (v0_) ∧ Kd.R k147 147 w' w.heap.size (fun _ => True) v0_ r ∧ Below w.heap.size w w' := by
 have hu144 := Try.underlying144
 have hu147 := Try.underlying147
 have HR0 := Aside0.mk hr0
 have HC0 := Aside0.mk hc0
 clear hr0 hc0
 have HB := Aside0.mk (Below.refl w.heap.size w)
 have H : (if 0 ≤ (l0.length : Int) then (if ((l0.length : Int) : Int).toNat ≤ 7036874417766 then (laws_toPodS.l0 k l0 (List.replicate ((l0.length : Int) : Int).toNat z147) 0) else (none)) else (none)) = some r := h
 clear h
 by_cases c2 : 0 ≤ (l0.length : Int)
 · rw [if_pos c2] at H
   have c2b0 := eq_true c2
   have c2b1 : decide (0 ≤ (l0.length : Int)) = true := decide_eq_true c2
   clear c2
   by_cases c3 : ((l0.length : Int) : Int).toNat ≤ 7036874417766
   · rw [if_pos c3] at H
     have c3b0 := eq_true c3
     have c3b1 : decide (((l0.length : Int) : Int).toNat ≤ 7036874417766) = true := decide_eq_true c3
     clear c3
     obtain ⟨y420, hy420⟩ : ∃ y_ : List (S147), y_ = (List.replicate ((l0.length : Int) : Int).toNat z147) := ⟨_, rfl⟩
     replace H : (laws_toPodS.l0 k l0 y420 0) = some r := by first | (rw [hy420]; with_reducible exact H) | (have H2_ := (Option.bind_some _ _).symm.trans H; rw [hy420]; with_reducible exact H2_) | (have H2_ := (Option.bind_some _ _).symm.trans H; with_reducible exact H2_) | with_reducible exact H | (rw [hy420]; exact H) | exact H
     have Ny420 := Aside0.mk hy420
     clear hy420
     have H' := Aside0.mk H
     clear H
     go_enter Try.func34, Try.ntmps34
     go_wp2_with (first | ((with_reducible refine gate_dst (N := 7) rfl ?_); refine Kd.R_make k147 _ 147 rfl (N := 7) rfl 59 _ _ rfl (l0.length : Int) rfl rfl Try.underlying59 (.agg #[(.string ⟨#[]⟩), (.int .i64 0), (.int .i64 0), (.bool false)]) 40 info147 rfl (by decide) (by omega) z147 (ok := fun _ => True) (okp := fun _ => True) (k147_mkM _ _ _ z147 ) (fun _ hk => hk) trivial (of_decide_eq_true am) (Nat.le_trans (Nat.mul_le_mul_right _ (of_decide_eq_true am : (l0.length : Int).toNat ≤ 7036874417766)) (by omega)) (Below.refl _ _) (Nat.le_refl _) ?_; intro v421 w4 ho5 hb hg_ hnew_; clear hg_ hnew_; (first | rw [← Ny420.out] at ho5 | (simp only [Int.reduceToNat] at ho5; rw [← Ny420.out] at ho5)); have HO422 := ak (Kd.R_lower ho5 (below_size bl)); replace HB := ak (below_step bl hb); clear hb ho5))
     go_loopg [4] k (fun kq v4 w' => ∃ (x3_1 : List (S147)) (x4_1 : Int), v4 = .int .i64 x4_1 ∧ Aside0 (laws_toPodS.l0 kq l0 x3_1 x4_1 = some r) ∧ Aside0 (kq ≤ k) ∧ Aside0 (Kd.R k147 147 w' w.heap.size (fun _ => True) v421 x3_1) ∧ Aside0 (Below w.heap.size w w'))
     case atStart => exact ⟨(y420), (0), es, H', ⟨Nat.le_refl _⟩, ⟨kr HO422⟩, ⟨bl⟩⟩
     case round =>
      clear H'
      try clear c2
      try clear c2b0
      try clear c2b1
      try clear p2
      try clear c3
      try clear c3b0
      try clear c3b1
      obtain ⟨x3_1, x4_1, rfl, HA, HK1, HO_3, HB⟩ := hrel
      cases gk with
      | zero => exact absurd HA.out (by simp [laws_toPodS.l0])
      | succ k1 =>
       have H := HA.out
       clear HA
       simp only [laws_toPodS.l0] at H
       by_cases c6 : x4_1 < (l0.length : Int)
       · rw [if_pos c6] at H
         have c6b0 : decide (x4_1 < (l0.length : Int)) = true := decide_eq_true c6
         clear c6
         by_cases c7 : 0 ≤ x4_1
         · rw [if_pos c7] at H
           have c7b0 : decide (0 ≤ x4_1) = true := decide_eq_true c7
           clear c7
           replace H := Option.bind_eq_some_iff.mp H
           obtain ⟨⟨t424, t425, t426, t427⟩, A80, H⟩ := H
           replace H : (if x4_1 < (x3_1.length : Int) then (laws_toPodS.l0 k1 l0 (x3_1.set (x4_1 : Int).toNat (⟨t424, t425, t426, t427⟩ : S147)) (wrap64 (x4_1 + 1))) else (none)) = some r := H
           have A8 := Aside0.mk A80
           clear A80
           by_cases c9 : x4_1 < (x3_1.length : Int)
           · rw [if_pos c9] at H
             have c9b0 : decide (x4_1 < (x3_1.length : Int)) = true := decide_eq_true c9
             clear c9
             obtain ⟨y428, hy428⟩ : ∃ y_ : List (S147), y_ = (x3_1.set (x4_1 : Int).toNat (⟨t424, t425, t426, t427⟩ : S147)) := ⟨_, rfl⟩
             replace H : (laws_toPodS.l0 k1 l0 y428 (wrap64 (x4_1 + 1))) = some r := by first | (rw [hy428]; with_reducible exact H) | (have H2_ := (Option.bind_some _ _).symm.trans H; rw [hy428]; with_reducible exact H2_) | (have H2_ := (Option.bind_some _ _).symm.trans H; with_reducible exact H2_) | with_reducible exact H | (rw [hy428]; exact H) | exact H
             have Ny428 := Aside0.mk hy428
             clear hy428
             have H' := Aside0.mk H
             clear H
             have p423 : 0 ≤ (x4_1 : Int) := of_decide_eq_true am
             have q423 : x4_1 < (l0.length : Int) := of_decide_eq_true am
             obtain ⟨ad423, e423, hx423_0, hx423_1, hx423_2, hx423_3⟩ := at_T144 HR0.out x4_1 p423 q423
             cases e423
             replace hx423_0 := cw hx423_0
             replace hx423_1 := cw hx423_1
             replace hx423_2 := cw hx423_2
             replace hx423_3 := cw hx423_3
             replace p423 := eq_true p423
             replace q423 := eq_true q423
             go_wp2_with (first | ((with_reducible refine gate_callee (f := 88) rfl ?_); refine gl (some 20) Try.func88 #[.agg #[.string ((rd_T144 l0 x4_1).f0), .int .i64 ((rd_T144 l0 x4_1).f1), .int .i64 ((rd_T144 l0 x4_1).f2), .bool ((rd_T144 l0 x4_1).f3)]] ?_; (with_reducible refine (laws_toPod.calls ((rd_T144 l0 x4_1).f0) ((rd_T144 l0 x4_1).f1) ((rd_T144 l0 x4_1).f2) ((rd_T144 l0 x4_1).f3) t424 t425 t426 t427 _ A8.out).mono ?_); rintro e w11 ⟨rfl, hb⟩; refine ⟨_, rfl, ?_⟩; replace HO_3 := ak (Kd.R_below (kr HO_3) hb); replace HB := ak (below_step bl hb); (try clear hb); (try clear hb2); (try clear hk); (try clear hi); have p10 : 0 ≤ (x4_1 : Int) := of_decide_eq_true am; have q10 : (x4_1 : Int) < ((x3_1.length : Int) : Int) := of_decide_eq_true am; obtain ⟨go10, co10, eo10, gb10, gl10, cl10, HG10⟩ := Kd.R_form HO_3.out (by omega); (first | cases eo10 | (injection eo10 with ea_ en_ ec_; (first | subst ea_ | (injection ea_ with ea_; subst ea_)); subst ec_; clear en_)); have GB10 := Aside0.mk gb10; have GG10 := Aside0.mk HG10; clear gb10 gl10 HG10; obtain ⟨ce10, hcl10, hM10, hcc10, hfr10⟩ := Kd.R_elem HO_3.out z147 (x4_1 : Int) p10 q10; obtain rfl := k147_openM hM10; have hx10_0 : w11.cell? ⟨go10, (x4_1 : Int).toNat * 4, none⟩ = some (.string ((rd_T147 x3_1 x4_1).f0)) := hcc10 0 _ rfl; have hx10_1 : w11.cell? ⟨go10, (x4_1 : Int).toNat * 4 + 1, none⟩ = some (.int .i64 ((rd_T147 x3_1 x4_1).f1)) := hcc10 1 _ rfl; have hx10_2 : w11.cell? ⟨go10, (x4_1 : Int).toNat * 4 + 2, none⟩ = some (.int .i64 ((rd_T147 x3_1 x4_1).f2)) := hcc10 2 _ rfl; have hx10_3 : w11.cell? ⟨go10, (x4_1 : Int).toNat * 4 + 3, none⟩ = some (.bool ((rd_T147 x3_1 x4_1).f3)) := hcc10 3 _ rfl; have hf10_0 : w11.frozen? ⟨go10, (x4_1 : Int).toNat * 4, none⟩ = false := hfr10 0; have hf10_1 : w11.frozen? ⟨go10, (x4_1 : Int).toNat * 4 + 1, none⟩ = false := hfr10 1; have hf10_2 : w11.frozen? ⟨go10, (x4_1 : Int).toNat * 4 + 2, none⟩ = false := hfr10 2; have hf10_3 : w11.frozen? ⟨go10, (x4_1 : Int).toNat * 4 + 3, none⟩ = false := hfr10 3; clear hcl10 hcc10 hfr10 hM10; replace p10 := eq_true p10; replace q10 := eq_true q10; have HX12 := Aside0.mk (show Kd.R k147 147 w11 w.heap.size (fun _ => True) (.slice (some ⟨go10, 0, none⟩) x3_1.length co10) x3_1 from (kr HO_3)); obtain ⟨ce12, hcl12, hM12, hcc12, hfr12⟩ := Kd.R_elem HX12.out z147 (x4_1 : Int) (of_decide_eq_true am) (by have h_ : (x4_1 : Int) < ((x3_1.length : Int) : Int) := of_decide_eq_true am; first | exact h_ | (have e_ := (Kd.R_reads' HO_3.out).1; omega) | simpa using h_); obtain rfl := k147_openM hM12; have HP12 := Kd.R_seg HX12.out (x4_1 : Int) (of_decide_eq_true am) (by have h_ : (x4_1 : Int) < ((x3_1.length : Int) : Int) := of_decide_eq_true am; first | exact h_ | (have e_ := (Kd.R_reads' HO_3.out).1; omega) | simpa using h_) (seg := [.string t424, .int .i64 t425, .int .i64 t426, .bool t427]) (j := 0) hcl12 hcc12 (show 4 ≤ 4 from by decide) (x' := (⟨t424, t425, t426, t427⟩ : S147)) (k147_mkM _ _ _ (⟨t424, t425, t426, t427⟩ : S147) ) (fun _ hk => hk); have hx12_0 := hcc12 0 _ rfl; (try simp only [show (k147).sz = 4 from rfl, Nat.mul_one, Nat.add_zero] at hx12_0); have hf12_0 := hfr12 0; (try simp only [show (k147).sz = 4 from rfl, Nat.mul_one, Nat.add_zero] at hf12_0); have hx12_1 := hcc12 1 _ rfl; (try simp only [show (k147).sz = 4 from rfl, Nat.mul_one, Nat.add_zero] at hx12_1); have hf12_1 := hfr12 1; (try simp only [show (k147).sz = 4 from rfl, Nat.mul_one, Nat.add_zero] at hf12_1); have hx12_2 := hcc12 2 _ rfl; (try simp only [show (k147).sz = 4 from rfl, Nat.mul_one, Nat.add_zero] at hx12_2); have hf12_2 := hfr12 2; (try simp only [show (k147).sz = 4 from rfl, Nat.mul_one, Nat.add_zero] at hf12_2); have hx12_3 := hcc12 3 _ rfl; (try simp only [show (k147).sz = 4 from rfl, Nat.mul_one, Nat.add_zero] at hx12_3); have hf12_3 := hfr12 3; (try simp only [show (k147).sz = 4 from rfl, Nat.mul_one, Nat.add_zero] at hf12_3); clear hcl12 hcc12 hfr12 hM12) | ((with_reducible refine gate_store (t := 147) (p := 21) rfl ?_); refine store_event (t := 147) (p := 21) (v := ?vo_w13) (w1 := ((((w11.setCell ⟨go10, (x4_1 : Int).toNat * 4, none⟩ (.string t424)).setCell ⟨go10, (x4_1 : Int).toNat * 4 + 1, none⟩ (.int .i64 t425)).setCell ⟨go10, (x4_1 : Int).toNat * 4 + 2, none⟩ (.int .i64 t426)).setCell ⟨go10, (x4_1 : Int).toNat * 4 + 3, none⟩ (.bool t427))) ?hg ?ho ?hn ?hr ?_; (case ho => rfl); (case hg => rfl); (case hn => rfl); (case hr => first | (go_simp; done) | (go_simp; rfl)); intro w13 hw; have hg : w11.grownBy w13 (some go10) := (by rw [hw]; exact HP12.2); have hp_ : Kd.R k147 147 w13 w.heap.size (fun _ => True) (.slice (some ⟨go10, 0, none⟩) x3_1.length co10) y428 := (by rw [hw, Ny428.out]; exact HP12.1); clear HP12; replace HO_3 := ak hp_; replace HB := ak (by rw [hw]; exact below_set (below_set (below_set (below_set (HB.out) GB10.out) GB10.out) GB10.out) GB10.out : Below w.heap.size w w13); clear hg hw hp_))
             go_roundg k1
             case measure => have := HK1.out; omega
             case rel => exact ⟨(y428), (wrap64 (x4_1 + 1)), es, H', ⟨kp⟩, ⟨kr HO_3⟩, ⟨bl⟩⟩
           · rw [if_neg c9] at H
             exact absurd H (by simp)
         · rw [if_neg c7] at H
           exact absurd H (by simp)
       · rw [if_neg c6] at H
         have c6b0 : decide (x4_1 < (l0.length : Int)) = false := decide_eq_false c6
         clear c6
         obtain rfl := Option.some.inj H
         go_wp2
         go_ret
         exact ⟨_, ew, kr HO_3, bl⟩
   · rw [if_neg c3] at H
     exact absurd H (by simp)
 · rw [if_neg c2] at H
   exact absurd H (by simp)

end Go.Proofs.Ytplekidnlofioaa.Q
namespace Go.Proofs.Ytplekidnlofioaa.Q
open Go.RowKit Go.Proofs.YtplekidnlofioaaW.PrintWords Go.Proofs.YtplekidnlofioaaW.PrintLast Go.Proofs.YtplekidnlofioaaW.PrintMore
attribute [local go_sem] max2_int min2_int max_two min_two max_three min_three max_four min_four   -- for this text's walks alone
set_option linter.unusedVariables false
set_option linter.unusedSimpArgs false

/-! ### laws_toRules: function 35 -/
def laws_toRules.f (a0_0 : Int) (a0_1 : Int) (a0_2 : Int) : Option (Int × Int × Int) := some (a0_0, a0_1, a0_2)
set_option maxHeartbeats 8000000 in
set_option maxRecDepth 100000 in
theorem laws_toRules.calls (a0_0 : Int) (a0_1 : Int) (a0_2 : Int) (r1 : Int) (r2 : Int) (r3 : Int) (w : World) (h : laws_toRules.f a0_0 a0_1 a0_2 = some (r1, r2, r3)) :
 Calls Try.prog 35 #[.agg #[.int .i64 a0_0, .int .i64 a0_1, .int .i64 a0_2]] w fun e w' => e = .returned (.agg #[.int .i64 r1, .int .i64 r2, .int .i64 r3]) ∧ Below w.heap.size w w' := by
 have hu56 := Try.underlying56
 have hu61 := Try.underlying61
 have HB := Aside0.mk (Below.refl w.heap.size w)
 have H : (some (a0_0, a0_1, a0_2)) = some (r1, r2, r3) := h
 clear h
 simp only [Option.some.injEq, Prod.mk.injEq] at H
 obtain ⟨rfl, rfl, rfl⟩ := H
 go_enter Try.func35, Try.ntmps35
 go_wp2_with (first | ((with_reducible refine gate_dst (N := 1) rfl ?_); refine bx 1 #[.int .i64 a0_0, .int .i64 a0_1, .int .i64 a0_2] 56 ?_; intro gb429 hg w2 hbox hb; have BK429 := ak hbox; have GW429 := gs hg bl; have GE429 := gs hg bl; replace HB := ak (below_step bl hb); clear hb hbox hg) | ((with_reducible refine gate_dst (N := 2) rfl ?_); refine bx 2 #[.int .i64 0, .int .i64 0, .int .i64 0] 61 ?_; intro gb430 hg w3 hbox hb; have BK430 := ak hbox; have GW430 := gs hg (bl1 GE429); have GE430 := gs hg (bl1 GE429); replace HB := ak (below_step (bl1 GE429) hb); have NB429_430 := nl hg BK429; have NB430_429 := ng hg BK429; replace BK429 := bb BK429 hb; clear hb hbox hg) | ((with_reducible refine gate_dst (N := 3) rfl ?_); refine bx 3 #[.int .i64 0, .int .i64 0, .int .i64 0] 61 ?_; intro gb431 hg w4 hbox hb; have BK431 := ak hbox; have GW431 := gs hg (bl2 GE429 GE430); have GE431 := gs hg (bl2 GE429 GE430); replace HB := ak (below_step (bl2 GE429 GE430) hb); have NB429_431 := nl hg BK429; have NB431_429 := ng hg BK429; replace BK429 := bb BK429 hb; have NB430_431 := nl hg BK430; have NB431_430 := ng hg BK430; replace BK430 := bb BK430 hb; clear hb hbox hg; have hnb5 := NB429_430.out; have hnc5 := NB430_429.out; have hnb6 := NB429_431.out; have hnc6 := NB431_429.out; obtain ⟨hcz7_0, hcz7_1, hcz7_2, hfz7_0, hfz7_1, hfz7_2⟩ := cz3 BK429; have hnb8 := NB431_430.out; have hnc8 := NB430_431.out; obtain ⟨hcz9_0, hcz9_1, hcz9_2, hfz9_0, hfz9_1, hfz9_2⟩ := cz3 BK431; obtain ⟨hcz10_0, hcz10_1, hcz10_2, hfz10_0, hfz10_1, hfz10_2⟩ := cz3 BK430))
 refine bodyPost_ret (results_cell_row rfl _ _ gb430 61 #[.int .i64 a0_0, .int .i64 a0_1, .int .i64 a0_2] (0, 0) _ rfl (by (with_reducible repeat (first | refine blk_drewN ?_ _ | refine blk_drew ?_ | refine blk_alloc ?_ _)); refine blk_put (cs := #[.int .i64 a0_0, .int .i64 a0_1, .int .i64 0]) ?_ 2 _ rfl; (with_reducible repeat (first | refine blk_drewN ?_ _ | refine blk_drew ?_ | refine blk_alloc ?_ _)); refine blk_put (cs := #[.int .i64 a0_0, .int .i64 0, .int .i64 0]) ?_ 1 _ rfl; (with_reducible repeat (first | refine blk_drewN ?_ _ | refine blk_drew ?_ | refine blk_alloc ?_ _)); refine blk_put (cs := #[.int .i64 0, .int .i64 0, .int .i64 0]) ?_ 0 _ rfl; (with_reducible repeat (first | refine blk_drewN ?_ _ | refine blk_drew ?_ | refine blk_alloc ?_ _)); refine blk_far ?_ NB430_431.out _; (with_reducible repeat (first | refine blk_drewN ?_ _ | refine blk_drew ?_ | refine blk_alloc ?_ _)); refine blk_far ?_ NB430_431.out _; (with_reducible repeat (first | refine blk_drewN ?_ _ | refine blk_drew ?_ | refine blk_alloc ?_ _)); refine blk_far ?_ NB430_431.out _; (with_reducible repeat (first | refine blk_drewN ?_ _ | refine blk_drew ?_ | refine blk_alloc ?_ _)); exact BK430.out) Try.underlying61 rfl (by kernel_rfl)) rfl ?_
 exact ⟨ew, bl3 GE429 GE430 GE431⟩

end Go.Proofs.Ytplekidnlofioaa.Q
namespace Go.Proofs.Ytplekidnlofioaa.Q
open Go.RowKit Go.Proofs.YtplekidnlofioaaW.PrintWords Go.Proofs.YtplekidnlofioaaW.PrintLast Go.Proofs.YtplekidnlofioaaW.PrintMore
attribute [local go_sem] max2_int min2_int max_two min_two max_three min_three max_four min_four   -- for this text's walks alone
set_option linter.unusedVariables false
set_option linter.unusedSimpArgs false

/-! ### laws_eqPod: function 91 -/
def laws_eqPod.f (a0_0 : ByteArray) (a0_1 : Int) (a0_2 : Int) (a0_3 : Bool) (a1_0 : ByteArray) (a1_1 : Int) (a1_2 : Int) (a1_3 : Bool) : Option (Bool) := if a0_0.toList = a1_0.toList then (if a0_1 = a1_1 then (if a0_2 = a1_2 then (if (a0_3 != a1_3) = true then (some false) else (some true)) else (some false)) else (some false)) else (some false)
set_option maxHeartbeats 8000000 in
set_option maxRecDepth 100000 in
theorem laws_eqPod.calls (a0_0 : ByteArray) (a0_1 : Int) (a0_2 : Int) (a0_3 : Bool) (a1_0 : ByteArray) (a1_1 : Int) (a1_2 : Int) (a1_3 : Bool) (r : Bool) (w : World) (h : laws_eqPod.f a0_0 a0_1 a0_2 a0_3 a1_0 a1_1 a1_2 a1_3 = some r) :
 Calls Try.prog 91 #[.agg #[.string a0_0, .int .i64 a0_1, .int .i64 a0_2, .bool a0_3], .agg #[.string a1_0, .int .i64 a1_1, .int .i64 a1_2, .bool a1_3]] w fun e w' => e = .returned (.bool r) ∧ Below w.heap.size w w' := by
 have hu147 := Try.underlying147
 have HB := Aside0.mk (Below.refl w.heap.size w)
 have H : (if a0_0.toList = a1_0.toList then (if a0_1 = a1_1 then (if a0_2 = a1_2 then (if (a0_3 != a1_3) = true then (some false) else (some true)) else (some false)) else (some false)) else (some false)) = some r := h
 clear h
 by_cases c3 : a0_0.toList = a1_0.toList
 · rw [if_pos c3] at H
   have c3b0 : (a0_0.toList == a1_0.toList) = true := beq_iff_eq.mpr c3
   have c3b1 : (a0_0.toList != a1_0.toList) = false := bne_eq_false_iff_eq.mpr c3
   clear c3
   by_cases c4 : a0_1 = a1_1
   · rw [if_pos c4] at H
     have c4b0 : (a0_1 == a1_1) = true := beq_iff_eq.mpr c4
     have c4b1 : (a0_1 != a1_1) = false := bne_eq_false_iff_eq.mpr c4
     clear c4
     by_cases c5 : a0_2 = a1_2
     · rw [if_pos c5] at H
       have c5b0 : (a0_2 == a1_2) = true := beq_iff_eq.mpr c5
       have c5b1 : (a0_2 != a1_2) = false := bne_eq_false_iff_eq.mpr c5
       clear c5
       by_cases c6 : (a0_3 != a1_3) = true
       · rw [if_pos c6] at H
         have c6b0 : (a0_3 != a1_3) = true := c6
         (try (have c6b1 : decide (a0_3 = a1_3) = false := by simpa using c6))
         (try (have c6b2 : (a0_3 == a1_3) = false := by simpa using c6))
         (try (have c6b3 : ¬ (a0_3 = a1_3) := by simpa using c6))
         clear c6
         obtain rfl := Option.some.inj H
         go_enter Try.func91, Try.ntmps91
         go_wp2_with (first | ((with_reducible refine gate_dst (N := 2) rfl ?_); refine bx 2 #[.string a0_0, .int .i64 a0_1, .int .i64 a0_2, .bool a0_3] 147 ?_; intro gb464 hg w7 hbox hb; have BK464 := ak hbox; have GW464 := gs hg bl; have GE464 := gs hg bl; replace HB := ak (below_step bl hb); clear hb hbox hg) | ((with_reducible refine gate_dst (N := 3) rfl ?_); refine bx 3 #[.string a1_0, .int .i64 a1_1, .int .i64 a1_2, .bool a1_3] 147 ?_; intro gb465 hg w8 hbox hb; have BK465 := ak hbox; have GW465 := gs hg (bl1 GE464); have GE465 := gs hg (bl1 GE464); replace HB := ak (below_step (bl1 GE464) hb); have NB464_465 := nl hg BK464; have NB465_464 := ng hg BK464; replace BK464 := bb BK464 hb; clear hb hbox hg; have hnb9 := NB464_465.out; have hnc9 := NB465_464.out; obtain ⟨hcz10_0, hcz10_1, hcz10_2, hcz10_3, hfz10_0, hfz10_1, hfz10_2, hfz10_3⟩ := cz4 BK464; obtain ⟨hcz11_0, hcz11_1, hcz11_2, hcz11_3, hfz11_0, hfz11_1, hfz11_2, hfz11_3⟩ := cz4 BK465))
         go_ret
         exact ⟨ew, bl2 GE464 GE465⟩
       · rw [if_neg c6] at H
         have c6b0 : (a0_3 != a1_3) = false := by simpa using c6
         (try (have c6b1 : decide (a0_3 = a1_3) = true := by simpa using c6))
         (try (have c6b2 : (a0_3 == a1_3) = true := by simpa using c6))
         clear c6
         obtain rfl := Option.some.inj H
         go_enter Try.func91, Try.ntmps91
         go_wp2_with (first | ((with_reducible refine gate_dst (N := 2) rfl ?_); refine bx 2 #[.string a0_0, .int .i64 a0_1, .int .i64 a0_2, .bool a0_3] 147 ?_; intro gb464 hg w12 hbox hb; have BK464 := ak hbox; have GW464 := gs hg bl; have GE464 := gs hg bl; replace HB := ak (below_step bl hb); clear hb hbox hg) | ((with_reducible refine gate_dst (N := 3) rfl ?_); refine bx 3 #[.string a1_0, .int .i64 a1_1, .int .i64 a1_2, .bool a1_3] 147 ?_; intro gb465 hg w13 hbox hb; have BK465 := ak hbox; have GW465 := gs hg (bl1 GE464); have GE465 := gs hg (bl1 GE464); replace HB := ak (below_step (bl1 GE464) hb); have NB464_465 := nl hg BK464; have NB465_464 := ng hg BK464; replace BK464 := bb BK464 hb; clear hb hbox hg; have hnb14 := NB464_465.out; have hnc14 := NB465_464.out; obtain ⟨hcz15_0, hcz15_1, hcz15_2, hcz15_3, hfz15_0, hfz15_1, hfz15_2, hfz15_3⟩ := cz4 BK464; obtain ⟨hcz16_0, hcz16_1, hcz16_2, hcz16_3, hfz16_0, hfz16_1, hfz16_2, hfz16_3⟩ := cz4 BK465))
         go_ret
         exact ⟨ew, bl2 GE464 GE465⟩
     · rw [if_neg c5] at H
       have c5b0 : (a0_2 == a1_2) = false := beq_eq_false_iff_ne.mpr c5
       have c5b1 : (a0_2 != a1_2) = true := bne_iff_ne.mpr c5
       obtain rfl := Option.some.inj H
       go_enter Try.func91, Try.ntmps91
       go_wp2_with (first | ((with_reducible refine gate_dst (N := 2) rfl ?_); refine bx 2 #[.string a0_0, .int .i64 a0_1, .int .i64 a0_2, .bool a0_3] 147 ?_; intro gb464 hg w17 hbox hb; have BK464 := ak hbox; have GW464 := gs hg bl; have GE464 := gs hg bl; replace HB := ak (below_step bl hb); clear hb hbox hg) | ((with_reducible refine gate_dst (N := 3) rfl ?_); refine bx 3 #[.string a1_0, .int .i64 a1_1, .int .i64 a1_2, .bool a1_3] 147 ?_; intro gb465 hg w18 hbox hb; have BK465 := ak hbox; have GW465 := gs hg (bl1 GE464); have GE465 := gs hg (bl1 GE464); replace HB := ak (below_step (bl1 GE464) hb); have NB464_465 := nl hg BK464; have NB465_464 := ng hg BK464; replace BK464 := bb BK464 hb; clear hb hbox hg; have hnb19 := NB464_465.out; have hnc19 := NB465_464.out; obtain ⟨hcz20_0, hcz20_1, hcz20_2, hcz20_3, hfz20_0, hfz20_1, hfz20_2, hfz20_3⟩ := cz4 BK464; obtain ⟨hcz21_0, hcz21_1, hcz21_2, hcz21_3, hfz21_0, hfz21_1, hfz21_2, hfz21_3⟩ := cz4 BK465))
       go_ret
       exact ⟨ew, bl2 GE464 GE465⟩
   · rw [if_neg c4] at H
     have c4b0 : (a0_1 == a1_1) = false := beq_eq_false_iff_ne.mpr c4
     have c4b1 : (a0_1 != a1_1) = true := bne_iff_ne.mpr c4
     obtain rfl := Option.some.inj H
     go_enter Try.func91, Try.ntmps91
     go_wp2_with (first | ((with_reducible refine gate_dst (N := 2) rfl ?_); refine bx 2 #[.string a0_0, .int .i64 a0_1, .int .i64 a0_2, .bool a0_3] 147 ?_; intro gb464 hg w22 hbox hb; have BK464 := ak hbox; have GW464 := gs hg bl; have GE464 := gs hg bl; replace HB := ak (below_step bl hb); clear hb hbox hg) | ((with_reducible refine gate_dst (N := 3) rfl ?_); refine bx 3 #[.string a1_0, .int .i64 a1_1, .int .i64 a1_2, .bool a1_3] 147 ?_; intro gb465 hg w23 hbox hb; have BK465 := ak hbox; have GW465 := gs hg (bl1 GE464); have GE465 := gs hg (bl1 GE464); replace HB := ak (below_step (bl1 GE464) hb); have NB464_465 := nl hg BK464; have NB465_464 := ng hg BK464; replace BK464 := bb BK464 hb; clear hb hbox hg; have hnb24 := NB464_465.out; have hnc24 := NB465_464.out; obtain ⟨hcz25_0, hcz25_1, hcz25_2, hcz25_3, hfz25_0, hfz25_1, hfz25_2, hfz25_3⟩ := cz4 BK464; obtain ⟨hcz26_0, hcz26_1, hcz26_2, hcz26_3, hfz26_0, hfz26_1, hfz26_2, hfz26_3⟩ := cz4 BK465))
     go_ret
     exact ⟨ew, bl2 GE464 GE465⟩
 · rw [if_neg c3] at H
   have c3b0 : (a0_0.toList == a1_0.toList) = false := beq_eq_false_iff_ne.mpr c3
   have c3b1 : (a0_0.toList != a1_0.toList) = true := bne_iff_ne.mpr c3
   obtain rfl := Option.some.inj H
   go_enter Try.func91, Try.ntmps91
   go_wp2_with (first | ((with_reducible refine gate_dst (N := 2) rfl ?_); refine bx 2 #[.string a0_0, .int .i64 a0_1, .int .i64 a0_2, .bool a0_3] 147 ?_; intro gb464 hg w27 hbox hb; have BK464 := ak hbox; have GW464 := gs hg bl; have GE464 := gs hg bl; replace HB := ak (below_step bl hb); clear hb hbox hg) | ((with_reducible refine gate_dst (N := 3) rfl ?_); refine bx 3 #[.string a1_0, .int .i64 a1_1, .int .i64 a1_2, .bool a1_3] 147 ?_; intro gb465 hg w28 hbox hb; have BK465 := ak hbox; have GW465 := gs hg (bl1 GE464); have GE465 := gs hg (bl1 GE464); replace HB := ak (below_step (bl1 GE464) hb); have NB464_465 := nl hg BK464; have NB465_464 := ng hg BK464; replace BK464 := bb BK464 hb; clear hb hbox hg; have hnb29 := NB464_465.out; have hnc29 := NB465_464.out; obtain ⟨hcz30_0, hcz30_1, hcz30_2, hcz30_3, hfz30_0, hfz30_1, hfz30_2, hfz30_3⟩ := cz4 BK464; obtain ⟨hcz31_0, hcz31_1, hcz31_2, hcz31_3, hfz31_0, hfz31_1, hfz31_2, hfz31_3⟩ := cz4 BK465))
   go_ret
   exact ⟨ew, bl2 GE464 GE465⟩

end Go.Proofs.Ytplekidnlofioaa.Q
namespace Go.Proofs.Ytplekidnlofioaa.Q
open Go.RowKit Go.Proofs.YtplekidnlofioaaW.PrintWords Go.Proofs.YtplekidnlofioaaW.PrintLast Go.Proofs.YtplekidnlofioaaW.PrintMore
attribute [local go_sem] max2_int min2_int max_two min_two max_three min_three max_four min_four   -- for this text's walks alone
set_option linter.unusedVariables false
set_option linter.unusedSimpArgs false

/-! ### laws_eqPodS: function 38 -/
def laws_eqPodS.l0 : Nat → List (S147) → List (S147) → Int → Option (Bool)
 | 0, _, _, _ => none
 | k + 1, x0, x1, x5 => if x5 < (x0.length : Int) then (if 0 ≤ x5 then (if x5 < (x1.length : Int) then ((laws_eqPod.f ((rd_T147 x0 x5).f0) ((rd_T147 x0 x5).f1) ((rd_T147 x0 x5).f2) ((rd_T147 x0 x5).f3) ((rd_T147 x1 x5).f0) ((rd_T147 x1 x5).f1) ((rd_T147 x1 x5).f2) ((rd_T147 x1 x5).f3)).bind fun t468 => (if t468 = true then (laws_eqPodS.l0 k x0 x1 (wrap64 (x5 + 1))) else (some false))) else (none)) else (none)) else (some true)
def laws_eqPodS.f (k : Nat) (l0 : List (S147)) (l1 : List (S147)) : Option (Bool) := if (l0.length : Int) = (l1.length : Int) then (laws_eqPodS.l0 k l0 l1 0) else (some false)
theorem laws_eqPodS.mono_l : ∀ k, (∀ y0 y1 y2, LeO (laws_eqPodS.l0 k y0 y1 y2) (laws_eqPodS.l0 (k + 1) y0 y1 y2))
 | 0 => fun _ _ _ r h => by simp [laws_eqPodS.l0] at h
 | k + 1 => by
  have ih0 := laws_eqPodS.mono_l k
  · intro y0 y1 y2
    unfold laws_eqPodS.l0
    repeat' first
    | (with_reducible exact ih0 _ _ _)
    | (with_reducible exact LeO.refl _)
    | (with_reducible exact LeO.none _)
    | (with_reducible refine LeO.ite ?_ ?_)
    | (with_reducible refine LeO.bind ?_ (fun _ => ?_))
    | exact ih0 _ _ _
    | exact LeO.none _
    | refine LeO.ite ?_ ?_
    | refine LeO.bind ?_ (fun _ => ?_)
theorem laws_eqPodS.mono : ∀ a0 a1 k, LeO (laws_eqPodS.f k a0 a1) (laws_eqPodS.f (k + 1) a0 a1) := by
 intro a0 a1 k
 have ih0 := laws_eqPodS.mono_l k
 unfold laws_eqPodS.f
 repeat' first
  | (with_reducible exact ih0 _ _ _)
  | (with_reducible exact LeO.refl _)
  | (with_reducible exact LeO.none _)
  | (with_reducible refine LeO.ite ?_ ?_)
  | (with_reducible refine LeO.bind ?_ (fun _ => ?_))
  | exact ih0 _ _ _
  | exact LeO.none _
  | refine LeO.ite ?_ ?_
  | refine LeO.bind ?_ (fun _ => ?_)
def laws_eqPodS.T6 : Bool × List (List Nat × List Nat) := (true, [([], []), ([], []), ([0, 1], [0, 1]), ([2], [2]), ([], []), ([], []), ([4, 5], [4, 5]), ([6], [6]), ([3, 7], [3, 7]), ([8], [8])])
def laws_eqPodS.B6 : List Nat := [0, 0, 3, 7, 0, 0, 48, 112, 255, 511]
theorem laws_eqPodS.tab6 : rtab .any (opsOf Try.f38 6) = laws_eqPodS.T6 := by kernel_rfl
theorem laws_eqPodS.bits6 : waitsOk laws_eqPodS.T6.2 laws_eqPodS.B6 = true := by kernel_rfl
set_option maxHeartbeats 8000000 in
set_option maxRecDepth 100000 in
theorem laws_eqPodS.calls (k : Nat) (A0 : Option Addr) (c0 : Nat) (l0 : List (S147)) (A1 : Option Addr) (c1 : Nat) (l1 : List (S147)) (r : Bool) (w : World) (hr0 : Kd.C k147 w A0 l0.length l0) (hc0 : l0.length ≤ c0) (hr1 : Kd.C k147 w A1 l1.length l1) (hc1 : l1.length ≤ c1) (h : laws_eqPodS.f k l0 l1 = some r) :
 Calls Try.prog 38 #[.slice A0 l0.length c0, .slice A1 l1.length c1] w fun e w' => e = .returned (.bool r) ∧ Below w.heap.size w w' := by
 have hu147 := Try.underlying147
 have HR0 := Aside0.mk hr0
 have HC0 := Aside0.mk hc0
 clear hr0 hc0
 have HR1 := Aside0.mk hr1
 have HC1 := Aside0.mk hc1
 clear hr1 hc1
 have HB := Aside0.mk (Below.refl w.heap.size w)
 have H : (if (l0.length : Int) = (l1.length : Int) then (laws_eqPodS.l0 k l0 l1 0) else (some false)) = some r := h
 clear h
 by_cases c3 : (l0.length : Int) = (l1.length : Int)
 · rw [if_pos c3] at H
   have c3b0 : ((l0.length : Int) == (l1.length : Int)) = true := beq_iff_eq.mpr c3
   have c3b1 : ((l0.length : Int) != (l1.length : Int)) = false := bne_eq_false_iff_eq.mpr c3
   have c3b2 : (l0.length == l1.length) = true := by first | simpa using c3 | (simp at c3 ⊢; omega)
   clear c3
   have H' := Aside0.mk H
   clear H
   go_enter Try.func38, Try.ntmps38
   go_wp2
   go_loopg [5] k (fun kq v5 w' => ∃ (x5_1 : Int), v5 = .int .i64 x5_1 ∧ Aside0 (laws_eqPodS.l0 kq l0 l1 x5_1 = some r) ∧ Aside0 (kq ≤ k) ∧ Aside0 (Below w.heap.size w w'))
   case atStart => exact ⟨(0), es, H', ⟨Nat.le_refl _⟩, ⟨bl⟩⟩
   case round =>
    clear H'
    try clear c1
    try clear p2
    try clear c3
    try clear c3b0
    try clear c3b1
    try clear c3b2
    obtain ⟨x5_1, rfl, HA, HK1, HB⟩ := hrel
    cases gk with
    | zero => exact absurd HA.out (by simp [laws_eqPodS.l0])
    | succ k1 =>
     have H := HA.out
     clear HA
     simp only [laws_eqPodS.l0] at H
     by_cases c4 : x5_1 < (l0.length : Int)
     · rw [if_pos c4] at H
       have c4b0 : decide (x5_1 < (l0.length : Int)) = true := decide_eq_true c4
       clear c4
       by_cases c5 : 0 ≤ x5_1
       · rw [if_pos c5] at H
         have c5b0 : decide (0 ≤ x5_1) = true := decide_eq_true c5
         clear c5
         by_cases c6 : x5_1 < (l1.length : Int)
         · rw [if_pos c6] at H
           have c6b0 : decide (x5_1 < (l1.length : Int)) = true := decide_eq_true c6
           clear c6
           obtain ⟨t468, A70, H⟩ := bo H
           have A7 := Aside0.mk A70
           clear A70
           by_cases c8 : t468 = true
           · subst c8
             replace H := iT H
             have H' := Aside0.mk H
             clear H
             try go_wp2
             replace HB := ak (below_drew1 HB.out)
             have p466 : 0 ≤ (x5_1 : Int) := of_decide_eq_true am
             have q466 : x5_1 < (l0.length : Int) := of_decide_eq_true am
             obtain ⟨ad466, e466, hx466_0, hx466_1, hx466_2, hx466_3⟩ := at_T147 HR0.out x5_1 p466 q466
             have hw466_3 := hx466_3
             have hw466_2 := hx466_2
             have hw466_1 := hx466_1
             have hw466_0 := hx466_0
             cases e466
             replace hx466_0 := cw hx466_0
             replace hx466_1 := cw hx466_1
             replace hx466_2 := cw hx466_2
             replace hx466_3 := cw hx466_3
             replace p466 := eq_true p466
             replace q466 := eq_true q466
             have p467 : 0 ≤ (x5_1 : Int) := of_decide_eq_true am
             have q467 : x5_1 < (l1.length : Int) := of_decide_eq_true am
             obtain ⟨ad467, e467, hx467_0, hx467_1, hx467_2, hx467_3⟩ := at_T147 HR1.out x5_1 p467 q467
             have hw467_3 := hx467_3
             have hw467_2 := hx467_2
             have hw467_1 := hx467_1
             have hw467_0 := hx467_0
             cases e467
             replace hx467_0 := cw hx467_0
             replace hx467_1 := cw hx467_1
             replace hx467_2 := cw hx467_2
             replace hx467_3 := cw hx467_3
             replace p467 := eq_true p467
             replace q467 := eq_true q467
             refine start_ (n := 10) (S := fun w' => w'.cell? (ad466.add ((x5_1).toNat * 4)) = some (.string ((rd_T147 l0 x5_1).f0)) ∧ w'.cell? ⟨(ad466.add ((x5_1).toNat * 4)).block, (ad466.add ((x5_1).toNat * 4)).off + 1, none⟩ = some (.int .i64 ((rd_T147 l0 x5_1).f1)) ∧ w'.cell? ⟨(ad466.add ((x5_1).toNat * 4)).block, (ad466.add ((x5_1).toNat * 4)).off + 2, none⟩ = some (.int .i64 ((rd_T147 l0 x5_1).f2)) ∧ w'.cell? ⟨(ad466.add ((x5_1).toNat * 4)).block, (ad466.add ((x5_1).toNat * 4)).off + 3, none⟩ = some (.bool ((rd_T147 l0 x5_1).f3)) ∧ w'.cell? (ad467.add ((x5_1).toNat * 4)) = some (.string ((rd_T147 l1 x5_1).f0)) ∧ w'.cell? ⟨(ad467.add ((x5_1).toNat * 4)).block, (ad467.add ((x5_1).toNat * 4)).off + 1, none⟩ = some (.int .i64 ((rd_T147 l1 x5_1).f1)) ∧ w'.cell? ⟨(ad467.add ((x5_1).toNat * 4)).block, (ad467.add ((x5_1).toNat * 4)).off + 2, none⟩ = some (.int .i64 ((rd_T147 l1 x5_1).f2)) ∧ w'.cell? ⟨(ad467.add ((x5_1).toNat * 4)).block, (ad467.add ((x5_1).toNat * 4)).off + 3, none⟩ = some (.bool ((rd_T147 l1 x5_1).f3))) (ds := []) (bitsA 10 0) (by kernel_rfl) rfl rfl ⟨(cw hw466_0), (cw hw466_1), (cw hw466_2), (cw hw466_3), (cw hw467_0), (cw hw467_1), (cw hw467_2), (cw hw467_3)⟩ (fun hHeld => ?_); refine with_tabW laws_eqPodS.tab6 laws_eqPodS.bits6 (fun HT_ HW_ => ?_)
             generalize wr.drew = w9 at HB hx466_0 hx466_1 hx466_2 hx466_3 hx467_0 hx467_1 hx467_2 hx467_3 hHeld ⊢
             refine pu 0 (some 17) (bitsA 10 1) ?_
             refine pu 1 (some 18) (bitsA 10 3) ?_
             refine pu 2 (some 19) (bitsA 10 7) ?_
             refine tk 3 (some 20) (bitsA 10 15) hHeld ?_ (hy := Or.inl ⟨by rfl, by rintro w' ⟨s0, s1, s2, s3, s4, s5, s6, s7⟩; go_simp; with_reducible rfl⟩)
             refine pu 4 (some 21) (bitsA 10 31) ?_
             refine pu 5 (some 22) (bitsA 10 63) ?_
             refine pu 6 (some 23) (bitsA 10 127) ?_
             refine tk 7 (some 24) (bitsA 10 255) hHeld ?_ (hy := Or.inl ⟨by rfl, by rintro w' ⟨s0, s1, s2, s3, s4, s5, s6, s7⟩; go_simp; with_reducible rfl⟩)
             refine one_ (i := 8) (N := some 25) (bitsA 10 511) rfl rfl (one_of HT_.out (by kernel_rfl)) (by decide) (fun K hK => ?_)
             refine goes_ Try.func91 (by kernel_rfl) rfl #[.agg #[.string ((rd_T147 l0 x5_1).f0), .int .i64 ((rd_T147 l0 x5_1).f1), .int .i64 ((rd_T147 l0 x5_1).f2), .bool ((rd_T147 l0 x5_1).f3)], .agg #[.string ((rd_T147 l1 x5_1).f0), .int .i64 ((rd_T147 l1 x5_1).f1), .int .i64 ((rd_T147 l1 x5_1).f2), .bool ((rd_T147 l1 x5_1).f3)]] (by rfl) rfl rfl mt ?_
             with_reducible refine (laws_eqPod.calls ((rd_T147 l0 x5_1).f0) ((rd_T147 l0 x5_1).f1) ((rd_T147 l0 x5_1).f2) ((rd_T147 l0 x5_1).f3) ((rd_T147 l1 x5_1).f0) ((rd_T147 l1 x5_1).f1) ((rd_T147 l1 x5_1).f2) ((rd_T147 l1 x5_1).f3) true _ A7.out).mono ?_
             rintro e w10 ⟨rfl, hb⟩
             refine ⟨_, rfl, ?_⟩
             replace HB := ak (below_step bl hb)
             (try clear hb)
             (try clear hb2)
             (try clear hk)
             (try clear hi)
             refine hK.out _ _ ⟨(cw hw466_0), (cw hw466_1), (cw hw466_2), (cw hw466_3), (cw hw467_0), (cw hw467_1), (cw hw467_2), (cw hw467_3)⟩ (fun hHeld => ?_)
             clear hK K
             refine nm ?_
             refine pu 9 (some 26) (bitsA 10 1023) ?_
             refine done_ (done_of HT_.out (by kernel_rfl)) ?_
             try go_wp2
             go_roundg k1
             case measure => have := HK1.out; omega
             case rel => exact ⟨(wrap64 (x5_1 + 1)), es, H', ⟨kp⟩, ⟨bl⟩⟩
           · replace c8 := Bool.eq_false_iff.mpr c8
             subst c8
             replace H := iF H
             obtain rfl := Option.some.inj H
             try go_wp2
             replace HB := ak (below_drew1 HB.out)
             have p466 : 0 ≤ (x5_1 : Int) := of_decide_eq_true am
             have q466 : x5_1 < (l0.length : Int) := of_decide_eq_true am
             obtain ⟨ad466, e466, hx466_0, hx466_1, hx466_2, hx466_3⟩ := at_T147 HR0.out x5_1 p466 q466
             have hw466_3 := hx466_3
             have hw466_2 := hx466_2
             have hw466_1 := hx466_1
             have hw466_0 := hx466_0
             cases e466
             replace hx466_0 := cw hx466_0
             replace hx466_1 := cw hx466_1
             replace hx466_2 := cw hx466_2
             replace hx466_3 := cw hx466_3
             replace p466 := eq_true p466
             replace q466 := eq_true q466
             have p467 : 0 ≤ (x5_1 : Int) := of_decide_eq_true am
             have q467 : x5_1 < (l1.length : Int) := of_decide_eq_true am
             obtain ⟨ad467, e467, hx467_0, hx467_1, hx467_2, hx467_3⟩ := at_T147 HR1.out x5_1 p467 q467
             have hw467_3 := hx467_3
             have hw467_2 := hx467_2
             have hw467_1 := hx467_1
             have hw467_0 := hx467_0
             cases e467
             replace hx467_0 := cw hx467_0
             replace hx467_1 := cw hx467_1
             replace hx467_2 := cw hx467_2
             replace hx467_3 := cw hx467_3
             replace p467 := eq_true p467
             replace q467 := eq_true q467
             refine start_ (n := 10) (S := fun w' => w'.cell? (ad466.add ((x5_1).toNat * 4)) = some (.string ((rd_T147 l0 x5_1).f0)) ∧ w'.cell? ⟨(ad466.add ((x5_1).toNat * 4)).block, (ad466.add ((x5_1).toNat * 4)).off + 1, none⟩ = some (.int .i64 ((rd_T147 l0 x5_1).f1)) ∧ w'.cell? ⟨(ad466.add ((x5_1).toNat * 4)).block, (ad466.add ((x5_1).toNat * 4)).off + 2, none⟩ = some (.int .i64 ((rd_T147 l0 x5_1).f2)) ∧ w'.cell? ⟨(ad466.add ((x5_1).toNat * 4)).block, (ad466.add ((x5_1).toNat * 4)).off + 3, none⟩ = some (.bool ((rd_T147 l0 x5_1).f3)) ∧ w'.cell? (ad467.add ((x5_1).toNat * 4)) = some (.string ((rd_T147 l1 x5_1).f0)) ∧ w'.cell? ⟨(ad467.add ((x5_1).toNat * 4)).block, (ad467.add ((x5_1).toNat * 4)).off + 1, none⟩ = some (.int .i64 ((rd_T147 l1 x5_1).f1)) ∧ w'.cell? ⟨(ad467.add ((x5_1).toNat * 4)).block, (ad467.add ((x5_1).toNat * 4)).off + 2, none⟩ = some (.int .i64 ((rd_T147 l1 x5_1).f2)) ∧ w'.cell? ⟨(ad467.add ((x5_1).toNat * 4)).block, (ad467.add ((x5_1).toNat * 4)).off + 3, none⟩ = some (.bool ((rd_T147 l1 x5_1).f3))) (ds := []) (bitsA 10 0) (by kernel_rfl) rfl rfl ⟨(cw hw466_0), (cw hw466_1), (cw hw466_2), (cw hw466_3), (cw hw467_0), (cw hw467_1), (cw hw467_2), (cw hw467_3)⟩ (fun hHeld => ?_); refine with_tabW laws_eqPodS.tab6 laws_eqPodS.bits6 (fun HT_ HW_ => ?_)
             generalize wr.drew = w11 at HB hx466_0 hx466_1 hx466_2 hx466_3 hx467_0 hx467_1 hx467_2 hx467_3 hHeld ⊢
             refine pu 0 (some 17) (bitsA 10 1) ?_
             refine pu 1 (some 18) (bitsA 10 3) ?_
             refine pu 2 (some 19) (bitsA 10 7) ?_
             refine tk 3 (some 20) (bitsA 10 15) hHeld ?_ (hy := Or.inl ⟨by rfl, by rintro w' ⟨s0, s1, s2, s3, s4, s5, s6, s7⟩; go_simp; with_reducible rfl⟩)
             refine pu 4 (some 21) (bitsA 10 31) ?_
             refine pu 5 (some 22) (bitsA 10 63) ?_
             refine pu 6 (some 23) (bitsA 10 127) ?_
             refine tk 7 (some 24) (bitsA 10 255) hHeld ?_ (hy := Or.inl ⟨by rfl, by rintro w' ⟨s0, s1, s2, s3, s4, s5, s6, s7⟩; go_simp; with_reducible rfl⟩)
             refine one_ (i := 8) (N := some 25) (bitsA 10 511) rfl rfl (one_of HT_.out (by kernel_rfl)) (by decide) (fun K hK => ?_)
             refine goes_ Try.func91 (by kernel_rfl) rfl #[.agg #[.string ((rd_T147 l0 x5_1).f0), .int .i64 ((rd_T147 l0 x5_1).f1), .int .i64 ((rd_T147 l0 x5_1).f2), .bool ((rd_T147 l0 x5_1).f3)], .agg #[.string ((rd_T147 l1 x5_1).f0), .int .i64 ((rd_T147 l1 x5_1).f1), .int .i64 ((rd_T147 l1 x5_1).f2), .bool ((rd_T147 l1 x5_1).f3)]] (by rfl) rfl rfl mt ?_
             with_reducible refine (laws_eqPod.calls ((rd_T147 l0 x5_1).f0) ((rd_T147 l0 x5_1).f1) ((rd_T147 l0 x5_1).f2) ((rd_T147 l0 x5_1).f3) ((rd_T147 l1 x5_1).f0) ((rd_T147 l1 x5_1).f1) ((rd_T147 l1 x5_1).f2) ((rd_T147 l1 x5_1).f3) false _ A7.out).mono ?_
             rintro e w12 ⟨rfl, hb⟩
             refine ⟨_, rfl, ?_⟩
             replace HB := ak (below_step bl hb)
             (try clear hb)
             (try clear hb2)
             (try clear hk)
             (try clear hi)
             refine hK.out _ _ ⟨(cw hw466_0), (cw hw466_1), (cw hw466_2), (cw hw466_3), (cw hw467_0), (cw hw467_1), (cw hw467_2), (cw hw467_3)⟩ (fun hHeld => ?_)
             clear hK K
             refine nm ?_
             refine pu 9 (some 26) (bitsA 10 1023) ?_
             refine done_ (done_of HT_.out (by kernel_rfl)) ?_
             try go_wp2
             go_ret
             exact ⟨ew, bl⟩
         · rw [if_neg c6] at H
           exact absurd H (by simp)
       · rw [if_neg c5] at H
         exact absurd H (by simp)
     · rw [if_neg c4] at H
       have c4b0 : decide (x5_1 < (l0.length : Int)) = false := decide_eq_false c4
       clear c4
       obtain rfl := Option.some.inj H
       go_wp2
       go_ret
       exact ⟨ew, bl⟩
 · rw [if_neg c3] at H
   have c3b0 : ((l0.length : Int) == (l1.length : Int)) = false := beq_eq_false_iff_ne.mpr c3
   have c3b1 : ((l0.length : Int) != (l1.length : Int)) = true := bne_iff_ne.mpr c3
   have c3b2 : (l0.length == l1.length) = false := by first | simpa using c3 | (simp at c3 ⊢; omega)
   obtain rfl := Option.some.inj H
   go_enter Try.func38, Try.ntmps38
   go_wp2
   go_ret
   exact ⟨ew, bl⟩

end Go.Proofs.Ytplekidnlofioaa.Q
namespace Go.Proofs.Ytplekidnlofioaa.Q
open Go.RowKit Go.Proofs.YtplekidnlofioaaW.PrintWords Go.Proofs.YtplekidnlofioaaW.PrintLast Go.Proofs.YtplekidnlofioaaW.PrintMore
attribute [local go_sem] max2_int min2_int max_two min_two max_three min_three max_four min_four   -- for this text's walks alone
set_option linter.unusedVariables false
set_option linter.unusedSimpArgs false

/-! ### spec_CountClass: function 101 -/
def spec_CountClass.l0 : Nat → List Int → Int → Int → Int → Option (Int)
 | 0, _, _, _, _ => none
 | k + 1, x0, x1, x5, x6 => if x6 < (x0.length : Int) then (if 0 ≤ x6 then (if (rd x0 x6) = x1 then (spec_CountClass.l0 k x0 x1 (wrap64 (x5 + 1)) (wrap64 (x6 + 1))) else (spec_CountClass.l0 k x0 x1 x5 (wrap64 (x6 + 1)))) else (none)) else (some x5)
def spec_CountClass.f (k : Nat) (l0 : List Int) (a1 : Int) : Option (Int) := spec_CountClass.l0 k l0 a1 0 0
theorem spec_CountClass.mono_l : ∀ k, (∀ y0 y1 y2 y3, LeO (spec_CountClass.l0 k y0 y1 y2 y3) (spec_CountClass.l0 (k + 1) y0 y1 y2 y3))
 | 0 => fun _ _ _ _ r h => by simp [spec_CountClass.l0] at h
 | k + 1 => by
  have ih0 := spec_CountClass.mono_l k
  · intro y0 y1 y2 y3
    unfold spec_CountClass.l0
    repeat' first
    | (with_reducible exact ih0 _ _ _ _)
    | (with_reducible exact LeO.refl _)
    | (with_reducible exact LeO.none _)
    | (with_reducible refine LeO.ite ?_ ?_)
    | (with_reducible refine LeO.bind ?_ (fun _ => ?_))
    | exact ih0 _ _ _ _
    | exact LeO.none _
    | refine LeO.ite ?_ ?_
    | refine LeO.bind ?_ (fun _ => ?_)
theorem spec_CountClass.mono : ∀ a0 a1 k, LeO (spec_CountClass.f k a0 a1) (spec_CountClass.f (k + 1) a0 a1) := by
 intro a0 a1 k
 have ih0 := spec_CountClass.mono_l k
 unfold spec_CountClass.f
 repeat' first
  | (with_reducible exact ih0 _ _ _ _)
  | (with_reducible exact LeO.refl _)
  | (with_reducible exact LeO.none _)
  | (with_reducible refine LeO.ite ?_ ?_)
  | (with_reducible refine LeO.bind ?_ (fun _ => ?_))
  | exact ih0 _ _ _ _
  | exact LeO.none _
  | refine LeO.ite ?_ ?_
  | refine LeO.bind ?_ (fun _ => ?_)
set_option maxHeartbeats 8000000 in
set_option maxRecDepth 100000 in
theorem spec_CountClass.calls (k : Nat) (A0 : Option Addr) (c0 : Nat) (l0 : List Int) (a1 : Int) (r : Int) (w : World) (hr0 : Kd.C (Kd.int .i64) w A0 l0.length l0) (hc0 : l0.length ≤ c0) (h : spec_CountClass.f k l0 a1 = some r) :
 Calls Try.prog 101 #[.slice A0 l0.length c0, .int .i64 a1] w fun e w' => e = .returned (.int .i64 r) ∧ Drawn0 w w' := by
 have HR0 := Aside0.mk hr0
 have HC0 := Aside0.mk hc0
 clear hr0 hc0
 have H : (spec_CountClass.l0 k l0 a1 0 0) = some r := h
 clear h
 have H' := Aside0.mk H
 clear H
 go_enter Try.func101, Try.ntmps101
 go_wp2
 go_loopg [5, 6] k (fun kq v5 v6 w' => ∃ (x5_1 : Int) (x6_1 : Int), v5 = .int .i64 x5_1 ∧ v6 = .int .i64 x6_1 ∧ Aside0 (spec_CountClass.l0 kq l0 a1 x5_1 x6_1 = some r) ∧ Aside0 (kq ≤ k) ∧ Drawn0 w w')
 case atStart => exact ⟨(0), (0), es, es, H', ⟨Nat.le_refl _⟩, dr0⟩
 case round =>
  clear H'
  try clear c1
  try clear p2
  obtain ⟨x5_1, x6_1, rfl, rfl, HA, HK1, ⟨m1, rfl⟩⟩ := hrel
  cases gk with
  | zero => exact absurd HA.out (by simp [spec_CountClass.l0])
  | succ k1 =>
   have H := HA.out
   clear HA
   simp only [spec_CountClass.l0] at H
   by_cases c3 : x6_1 < (l0.length : Int)
   · rw [if_pos c3] at H
     have c3b0 : decide (x6_1 < (l0.length : Int)) = true := decide_eq_true c3
     clear c3
     by_cases c4 : 0 ≤ x6_1
     · rw [if_pos c4] at H
       have c4b0 : decide (0 ≤ x6_1) = true := decide_eq_true c4
       clear c4
       by_cases c5 : (rd l0 x6_1) = a1
       · rw [if_pos c5] at H
         have c5b0 : ((rd l0 x6_1) == a1) = true := beq_iff_eq.mpr c5
         have c5b1 : ((rd l0 x6_1) != a1) = false := bne_eq_false_iff_eq.mpr c5
         clear c5
         have H' := Aside0.mk H
         clear H
         have p796 : 0 ≤ (x6_1 : Int) := of_decide_eq_true am
         have q796 : x6_1 < (l0.length : Int) := of_decide_eq_true am
         obtain ⟨ad796, e796, hx796_0⟩ := Kd.at_int HR0.out x6_1 p796 q796
         cases e796
         replace p796 := eq_true p796
         replace q796 := eq_true q796
         go_wp2
         go_roundg k1
         case measure => have := HK1.out; omega
         case rel => exact ⟨(wrap64 (x5_1 + 1)), (wrap64 (x6_1 + 1)), es, es, H', ⟨kp⟩, dr0⟩
       · rw [if_neg c5] at H
         have c5b0 : ((rd l0 x6_1) == a1) = false := beq_eq_false_iff_ne.mpr c5
         have c5b1 : ((rd l0 x6_1) != a1) = true := bne_iff_ne.mpr c5
         have H' := Aside0.mk H
         clear H
         have p796 : 0 ≤ (x6_1 : Int) := of_decide_eq_true am
         have q796 : x6_1 < (l0.length : Int) := of_decide_eq_true am
         obtain ⟨ad796, e796, hx796_0⟩ := Kd.at_int HR0.out x6_1 p796 q796
         cases e796
         replace p796 := eq_true p796
         replace q796 := eq_true q796
         go_wp2
         go_roundg k1
         case measure => have := HK1.out; omega
         case rel => exact ⟨(x5_1), (wrap64 (x6_1 + 1)), es, es, H', ⟨kp⟩, dr0⟩
     · rw [if_neg c4] at H
       exact absurd H (by simp)
   · rw [if_neg c3] at H
     have c3b0 : decide (x6_1 < (l0.length : Int)) = false := decide_eq_false c3
     clear c3
     obtain rfl := Option.some.inj H
     go_wp2
     go_ret
     exact ⟨es, dr0⟩

end Go.Proofs.Ytplekidnlofioaa.Q
namespace Go.Proofs.Ytplekidnlofioaa.Q
open Go.RowKit Go.Proofs.YtplekidnlofioaaW.PrintWords Go.Proofs.YtplekidnlofioaaW.PrintLast Go.Proofs.YtplekidnlofioaaW.PrintMore
attribute [local go_sem] max2_int min2_int max_two min_two max_three min_three max_four min_four   -- for this text's walks alone
set_option linter.unusedVariables false
set_option linter.unusedSimpArgs false

/-! ### spec_l01In: function 69 -/
def spec_l01In.f (a0 : Int) (a1 : Int) (a2 : Int) : Option (Bool) := if a1 ≤ a0 then (some (decide (a0 ≤ a2))) else (some false)
set_option maxHeartbeats 8000000 in
set_option maxRecDepth 100000 in
theorem spec_l01In.calls (a0 : Int) (a1 : Int) (a2 : Int) (r : Bool) (w : World) (h : spec_l01In.f a0 a1 a2 = some r) :
 Calls Try.prog 69 #[.int .i64 a0, .int .i64 a1, .int .i64 a2] w fun e w' => e = .returned (.bool r) ∧ Drawn0 w w' := by
 have H : (if a1 ≤ a0 then (some (decide (a0 ≤ a2))) else (some false)) = some r := h
 clear h
 by_cases c4 : a1 ≤ a0
 · rw [if_pos c4] at H
   have c4b0 : decide (a1 ≤ a0) = true := decide_eq_true c4
   clear c4
   obtain rfl := Option.some.inj H
   go_enter Try.func69, Try.ntmps69
   go_wp2
   go_ret
   exact ⟨es, dr0⟩
 · rw [if_neg c4] at H
   have c4b0 : decide (a1 ≤ a0) = false := decide_eq_false c4
   clear c4
   obtain rfl := Option.some.inj H
   go_enter Try.func69, Try.ntmps69
   go_wp2
   go_ret
   exact ⟨es, dr0⟩

end Go.Proofs.Ytplekidnlofioaa.Q
namespace Go.Proofs.Ytplekidnlofioaa.Q
open Go.RowKit Go.Proofs.YtplekidnlofioaaW.PrintWords Go.Proofs.YtplekidnlofioaaW.PrintLast Go.Proofs.YtplekidnlofioaaW.PrintMore
attribute [local go_sem] max2_int min2_int max_two min_two max_three min_three max_four min_four   -- for this text's walks alone
set_option linter.unusedVariables false
set_option linter.unusedSimpArgs false

/-! ### spec_NameOk: function 68 -/
def spec_NameOk.l0 : Nat → ByteArray → Int → Option (Bool)
 | 0, _, _ => none
 | k + 1, x0, x3 => if x3 < (x0.size : Int) then (if 0 ≤ x3 then (if (bt x0 x3) < 97 then (if (bt x0 x3) < 48 then (some false) else (if (bt x0 x3) > 57 then (some false) else (spec_NameOk.l0 k x0 (wrap64 (x3 + 1))))) else (if (bt x0 x3) > 122 then (if (bt x0 x3) < 48 then (some false) else (if (bt x0 x3) > 57 then (some false) else (spec_NameOk.l0 k x0 (wrap64 (x3 + 1))))) else (spec_NameOk.l0 k x0 (wrap64 (x3 + 1))))) else (none)) else (some true)
def spec_NameOk.f (k : Nat) (a0 : ByteArray) : Option (Bool) := (spec_l01In.f (a0.size : Int) 1 12).bind fun t179 => (if t179 = true then (spec_NameOk.l0 k a0 0) else (some false))
theorem spec_NameOk.mono_l : ∀ k, (∀ y0 y1, LeO (spec_NameOk.l0 k y0 y1) (spec_NameOk.l0 (k + 1) y0 y1))
 | 0 => fun _ _ r h => by simp [spec_NameOk.l0] at h
 | k + 1 => by
  have ih0 := spec_NameOk.mono_l k
  · intro y0 y1
    unfold spec_NameOk.l0
    repeat' first
    | (with_reducible exact ih0 _ _)
    | (with_reducible exact LeO.refl _)
    | (with_reducible exact LeO.none _)
    | (with_reducible refine LeO.ite ?_ ?_)
    | (with_reducible refine LeO.bind ?_ (fun _ => ?_))
    | exact ih0 _ _
    | exact LeO.none _
    | refine LeO.ite ?_ ?_
    | refine LeO.bind ?_ (fun _ => ?_)
theorem spec_NameOk.mono : ∀ a0 k, LeO (spec_NameOk.f k a0) (spec_NameOk.f (k + 1) a0) := by
 intro a0 k
 have ih0 := spec_NameOk.mono_l k
 unfold spec_NameOk.f
 repeat' first
  | (with_reducible exact ih0 _ _)
  | (with_reducible exact LeO.refl _)
  | (with_reducible exact LeO.none _)
  | (with_reducible refine LeO.ite ?_ ?_)
  | (with_reducible refine LeO.bind ?_ (fun _ => ?_))
  | exact ih0 _ _
  | exact LeO.none _
  | refine LeO.ite ?_ ?_
  | refine LeO.bind ?_ (fun _ => ?_)
set_option maxHeartbeats 8000000 in
set_option maxRecDepth 100000 in
theorem spec_NameOk.calls (k : Nat) (a0 : ByteArray) (r : Bool) (w : World) (h : spec_NameOk.f k a0 = some r) :
 Calls Try.prog 68 #[.string a0] w fun e w' => e = .returned (.bool r) ∧ Drawn0 w w' := by
 have H : ((spec_l01In.f (a0.size : Int) 1 12).bind fun t179 => (if t179 = true then (spec_NameOk.l0 k a0 0) else (some false))) = some r := h
 clear h
 obtain ⟨t179, A20, H⟩ := bo H
 have A2 := Aside0.mk A20
 clear A20
 by_cases c3 : t179 = true
 · subst c3
   replace H := iT H
   have H' := Aside0.mk H
   clear H
   go_enter Try.func68, Try.ntmps68
   go_wp2_with (first | ((with_reducible refine gate_callee (f := 69) rfl ?_); refine gl (some 7) Try.func69 #[.int .i64 (a0.size : Int), .int .i64 1, .int .i64 12] ?_; (with_reducible refine (spec_l01In.calls (a0.size : Int) 1 12 true _ A2.out).mono ?_); rintro e w' ⟨rfl, ⟨nd, rfl⟩⟩; refine ⟨_, rfl, ?_⟩))
   go_loopg [3] k (fun kq v3 w' => ∃ (x3_1 : Int), v3 = .int .i64 x3_1 ∧ Aside0 (spec_NameOk.l0 kq a0 x3_1 = some r) ∧ Aside0 (kq ≤ k) ∧ Drawn0 w w')
   case atStart => exact ⟨(0), es, H', ⟨Nat.le_refl _⟩, dr0⟩
   case round =>
    clear H'
    try clear p2
    try clear c3
    obtain ⟨x3_1, rfl, HA, HK1, ⟨m1, rfl⟩⟩ := hrel
    cases gk with
    | zero => exact absurd HA.out (by simp [spec_NameOk.l0])
    | succ k1 =>
     have H := HA.out
     clear HA
     simp only [spec_NameOk.l0] at H
     by_cases c4 : x3_1 < (a0.size : Int)
     · rw [if_pos c4] at H
       have c4b0 : decide (x3_1 < (a0.size : Int)) = true := decide_eq_true c4
       clear c4
       by_cases c5 : 0 ≤ x3_1
       · rw [if_pos c5] at H
         have c5b0 : decide (0 ≤ x3_1) = true := decide_eq_true c5
         clear c5
         by_cases c7 : (bt a0 x3_1) < 97
         · rw [if_pos c7] at H
           have c7b0 : decide ((bt a0 x3_1) < 97) = true := decide_eq_true c7
           clear c7
           by_cases c8 : (bt a0 x3_1) < 48
           · rw [if_pos c8] at H
             have c8b0 : decide ((bt a0 x3_1) < 48) = true := decide_eq_true c8
             clear c8
             obtain rfl := Option.some.inj H
             have p6 : 0 ≤ (x3_1 : Int) := of_decide_eq_true am
             have q6 : x3_1 < (a0.size : Int) := of_decide_eq_true am
             have hx6 := bt_at a0 x3_1
             replace p6 := eq_true p6
             replace q6 := eq_true q6
             go_wp2
             go_ret
             exact ⟨es, dr0⟩
           · rw [if_neg c8] at H
             have c8b0 : decide ((bt a0 x3_1) < 48) = false := decide_eq_false c8
             clear c8
             by_cases c9 : (bt a0 x3_1) > 57
             · rw [if_pos c9] at H
               have c9b0 : decide (57 < (bt a0 x3_1)) = true := decide_eq_true c9
               clear c9
               obtain rfl := Option.some.inj H
               have p6 : 0 ≤ (x3_1 : Int) := of_decide_eq_true am
               have q6 : x3_1 < (a0.size : Int) := of_decide_eq_true am
               have hx6 := bt_at a0 x3_1
               replace p6 := eq_true p6
               replace q6 := eq_true q6
               go_wp2
               go_ret
               exact ⟨es, dr0⟩
             · rw [if_neg c9] at H
               have c9b0 : decide (57 < (bt a0 x3_1)) = false := decide_eq_false c9
               clear c9
               have H' := Aside0.mk H
               clear H
               have p6 : 0 ≤ (x3_1 : Int) := of_decide_eq_true am
               have q6 : x3_1 < (a0.size : Int) := of_decide_eq_true am
               have hx6 := bt_at a0 x3_1
               replace p6 := eq_true p6
               replace q6 := eq_true q6
               go_wp2
               go_roundg k1
               case measure => have := HK1.out; omega
               case rel => exact ⟨(wrap64 (x3_1 + 1)), es, H', ⟨kp⟩, dr0⟩
         · rw [if_neg c7] at H
           have c7b0 : decide ((bt a0 x3_1) < 97) = false := decide_eq_false c7
           clear c7
           by_cases c10 : (bt a0 x3_1) > 122
           · rw [if_pos c10] at H
             have c10b0 : decide (122 < (bt a0 x3_1)) = true := decide_eq_true c10
             clear c10
             by_cases c11 : (bt a0 x3_1) < 48
             · rw [if_pos c11] at H
               have c11b0 : decide ((bt a0 x3_1) < 48) = true := decide_eq_true c11
               clear c11
               obtain rfl := Option.some.inj H
               have p6 : 0 ≤ (x3_1 : Int) := of_decide_eq_true am
               have q6 : x3_1 < (a0.size : Int) := of_decide_eq_true am
               have hx6 := bt_at a0 x3_1
               replace p6 := eq_true p6
               replace q6 := eq_true q6
               go_wp2
               go_ret
               exact ⟨es, dr0⟩
             · rw [if_neg c11] at H
               have c11b0 : decide ((bt a0 x3_1) < 48) = false := decide_eq_false c11
               clear c11
               by_cases c12 : (bt a0 x3_1) > 57
               · rw [if_pos c12] at H
                 have c12b0 : decide (57 < (bt a0 x3_1)) = true := decide_eq_true c12
                 clear c12
                 obtain rfl := Option.some.inj H
                 have p6 : 0 ≤ (x3_1 : Int) := of_decide_eq_true am
                 have q6 : x3_1 < (a0.size : Int) := of_decide_eq_true am
                 have hx6 := bt_at a0 x3_1
                 replace p6 := eq_true p6
                 replace q6 := eq_true q6
                 go_wp2
                 go_ret
                 exact ⟨es, dr0⟩
               · rw [if_neg c12] at H
                 have c12b0 : decide (57 < (bt a0 x3_1)) = false := decide_eq_false c12
                 clear c12
                 have H' := Aside0.mk H
                 clear H
                 have p6 : 0 ≤ (x3_1 : Int) := of_decide_eq_true am
                 have q6 : x3_1 < (a0.size : Int) := of_decide_eq_true am
                 have hx6 := bt_at a0 x3_1
                 replace p6 := eq_true p6
                 replace q6 := eq_true q6
                 go_wp2
                 go_roundg k1
                 case measure => have := HK1.out; omega
                 case rel => exact ⟨(wrap64 (x3_1 + 1)), es, H', ⟨kp⟩, dr0⟩
           · rw [if_neg c10] at H
             have c10b0 : decide (122 < (bt a0 x3_1)) = false := decide_eq_false c10
             clear c10
             have H' := Aside0.mk H
             clear H
             have p6 : 0 ≤ (x3_1 : Int) := of_decide_eq_true am
             have q6 : x3_1 < (a0.size : Int) := of_decide_eq_true am
             have hx6 := bt_at a0 x3_1
             replace p6 := eq_true p6
             replace q6 := eq_true q6
             go_wp2
             go_roundg k1
             case measure => have := HK1.out; omega
             case rel => exact ⟨(wrap64 (x3_1 + 1)), es, H', ⟨kp⟩, dr0⟩
       · rw [if_neg c5] at H
         exact absurd H (by simp)
     · rw [if_neg c4] at H
       have c4b0 : decide (x3_1 < (a0.size : Int)) = false := decide_eq_false c4
       clear c4
       obtain rfl := Option.some.inj H
       go_wp2
       go_ret
       exact ⟨es, dr0⟩
 · replace c3 := Bool.eq_false_iff.mpr c3
   subst c3
   replace H := iF H
   obtain rfl := Option.some.inj H
   go_enter Try.func68, Try.ntmps68
   go_wp2_with (first | ((with_reducible refine gate_callee (f := 69) rfl ?_); refine gl (some 7) Try.func69 #[.int .i64 (a0.size : Int), .int .i64 1, .int .i64 12] ?_; (with_reducible refine (spec_l01In.calls (a0.size : Int) 1 12 false _ A2.out).mono ?_); rintro e w' ⟨rfl, ⟨nd, rfl⟩⟩; refine ⟨_, rfl, ?_⟩))
   go_ret
   exact ⟨es, dr0⟩

end Go.Proofs.Ytplekidnlofioaa.Q
namespace Go.Proofs.Ytplekidnlofioaa.Q
open Go.RowKit Go.Proofs.YtplekidnlofioaaW.PrintWords Go.Proofs.YtplekidnlofioaaW.PrintLast Go.Proofs.YtplekidnlofioaaW.PrintMore
attribute [local go_sem] max2_int min2_int max_two min_two max_three min_three max_four min_four   -- for this text's walks alone
set_option linter.unusedVariables false
set_option linter.unusedSimpArgs false

/-! ### spec_l02Less: function 130 -/
mutual
def spec_l02Less.l0 : Nat → ByteArray → ByteArray → Int → Option (Bool)
 | 0, _, _, _ => none
 | k + 1, x0, x1, x5 => if x5 < (x0.size : Int) then (spec_l02Less.j1 k x0 x1 x5 (decide (x5 < (x1.size : Int)))) else (spec_l02Less.j1 k x0 x1 x5 false)
def spec_l02Less.j1 : Nat → ByteArray → ByteArray → Int → Bool → Option (Bool)
 | 0, _, _, _, _ => none
 | k + 1, x0, x1, x5, x15 => if x15 = true then (if 0 ≤ x5 then (if x5 < (x0.size : Int) then (if x5 < (x1.size : Int) then (if (bt x0 x5) = (bt x1 x5) then (spec_l02Less.l0 k x0 x1 (wrap64 (x5 + 1))) else (some (decide ((bt x0 x5) < (bt x1 x5))))) else (none)) else (none)) else (none)) else (some (decide ((x0.size : Int) < (x1.size : Int))))
end
def spec_l02Less.f (k : Nat) (a0 : ByteArray) (a1 : ByteArray) : Option (Bool) := spec_l02Less.l0 k a0 a1 0
theorem spec_l02Less.mono_l : ∀ k, (∀ y0 y1 y2, LeO (spec_l02Less.l0 k y0 y1 y2) (spec_l02Less.l0 (k + 1) y0 y1 y2)) ∧ (∀ y0 y1 y2 y3, LeO (spec_l02Less.j1 k y0 y1 y2 y3) (spec_l02Less.j1 (k + 1) y0 y1 y2 y3))
 | 0 => ⟨fun _ _ _ r h => by simp [spec_l02Less.l0] at h, fun _ _ _ _ r h => by simp [spec_l02Less.j1] at h⟩
 | k + 1 => by
  obtain ⟨ih0, ih1⟩ := spec_l02Less.mono_l k
  refine ⟨?_, ?_⟩
  · intro y0 y1 y2
    unfold spec_l02Less.l0
    repeat' first
    | (with_reducible exact ih0 _ _ _)
    | (with_reducible exact ih1 _ _ _ _)
    | (with_reducible exact LeO.refl _)
    | (with_reducible exact LeO.none _)
    | (with_reducible refine LeO.ite ?_ ?_)
    | (with_reducible refine LeO.bind ?_ (fun _ => ?_))
    | exact ih0 _ _ _
    | exact ih1 _ _ _ _
    | exact LeO.none _
    | refine LeO.ite ?_ ?_
    | refine LeO.bind ?_ (fun _ => ?_)
  · intro y0 y1 y2 y3
    unfold spec_l02Less.j1
    repeat' first
    | (with_reducible exact ih0 _ _ _)
    | (with_reducible exact ih1 _ _ _ _)
    | (with_reducible exact LeO.refl _)
    | (with_reducible exact LeO.none _)
    | (with_reducible refine LeO.ite ?_ ?_)
    | (with_reducible refine LeO.bind ?_ (fun _ => ?_))
    | exact ih0 _ _ _
    | exact ih1 _ _ _ _
    | exact LeO.none _
    | refine LeO.ite ?_ ?_
    | refine LeO.bind ?_ (fun _ => ?_)
theorem spec_l02Less.mono : ∀ a0 a1 k, LeO (spec_l02Less.f k a0 a1) (spec_l02Less.f (k + 1) a0 a1) := by
 intro a0 a1 k
 obtain ⟨ih0, ih1⟩ := spec_l02Less.mono_l k
 unfold spec_l02Less.f
 repeat' first
  | (with_reducible exact ih0 _ _ _)
  | (with_reducible exact ih1 _ _ _ _)
  | (with_reducible exact LeO.refl _)
  | (with_reducible exact LeO.none _)
  | (with_reducible refine LeO.ite ?_ ?_)
  | (with_reducible refine LeO.bind ?_ (fun _ => ?_))
  | exact ih0 _ _ _
  | exact ih1 _ _ _ _
  | exact LeO.none _
  | refine LeO.ite ?_ ?_
  | refine LeO.bind ?_ (fun _ => ?_)
set_option maxHeartbeats 8000000 in
set_option maxRecDepth 100000 in
theorem spec_l02Less.calls (k : Nat) (a0 : ByteArray) (a1 : ByteArray) (r : Bool) (w : World) (h : spec_l02Less.f k a0 a1 = some r) :
 Calls Try.prog 130 #[.string a0, .string a1] w fun e w' => e = .returned (.bool r) ∧ Drawn0 w w' := by
 have H : (spec_l02Less.l0 k a0 a1 0) = some r := h
 clear h
 have H' := Aside0.mk H
 clear H
 go_enter Try.func130, Try.ntmps130
 go_wp2
 repeat (go_quiet (fail); try go_wp2)
 go_loopg [5] k (fun kq v5 w' => ∃ (x5_1 : Int), v5 = .int .i64 x5_1 ∧ Aside0 (spec_l02Less.l0 kq a0 a1 x5_1 = some r) ∧ Aside0 (kq ≤ k) ∧ Drawn0 w w')
 case atStart => exact ⟨(0), es, H', ⟨Nat.le_refl _⟩, dr0⟩
 case round =>
  clear H'
  try clear c1
  try clear p2
  obtain ⟨x5_1, rfl, HA, HK1, ⟨m1, rfl⟩⟩ := hrel
  cases gk with
  | zero => exact absurd HA.out (by simp [spec_l02Less.l0])
  | succ k1 =>
   have H := HA.out
   clear HA
   simp only [spec_l02Less.l0] at H
   have HC3 := Aside0.mk H
   clear H
   go_upto_region 2 with (fail)
   repeat (go_quiet (fail); go_upto_region 2 with (fail))
   go_cut [15] (fun v15 wc => ∃ (kq : Nat) (x15_2 : Bool), v15 = .bool x15_2 ∧ Aside0 (spec_l02Less.j1 kq a0 a1 x5_1 x15_2 = some r) ∧ Aside0 (kq ≤ k1) ∧ Drawn0 w wc)
   case first =>
    have H := HC3.out
    clear HC3
    by_cases c4 : x5_1 < (a0.size : Int)
    · rw [if_pos c4] at H
      have c4b0 : decide (x5_1 < (a0.size : Int)) = true := decide_eq_true c4
      clear c4
      (first | rw [c4b0] | (simp only [i64_w, i32_w]; rw [c4b0]) | skip)
      have H' := Aside0.mk H
      clear H
      go_wp2
      repeat (go_quiet (fail); try go_wp2)
      go_meet
      case rel => exact ⟨_, (decide (x5_1 < (a1.size : Int))), es, H', ⟨ko⟩, dr0⟩
    · rw [if_neg c4] at H
      have c4b0 : decide (x5_1 < (a0.size : Int)) = false := decide_eq_false c4
      clear c4
      (first | rw [c4b0] | (simp only [i64_w, i32_w]; rw [c4b0]) | skip)
      have H' := Aside0.mk H
      clear H
      go_wp2
      repeat (go_quiet (fail); try go_wp2)
      go_meet
      case rel => exact ⟨_, (false), es, H', ⟨ko⟩, dr0⟩
   case rest =>
    clear HC3
    try clear c1
    try clear p2
    try clear c4
    try clear c4b0
    try clear p2
    obtain ⟨kq, x15_2, rfl, HA, HJ2, ⟨mc2, rfl⟩⟩ := hcut
    cases kq with
    | zero => exact absurd HA.out (by simp [spec_l02Less.j1])
    | succ kj2 =>
     have H := HA.out
     clear HA
     simp only [spec_l02Less.j1] at H
     by_cases c5 : x15_2 = true
     · subst c5
       replace H := iT H
       by_cases c6 : 0 ≤ x5_1
       · rw [if_pos c6] at H
         have c6b0 : decide (0 ≤ x5_1) = true := decide_eq_true c6
         clear c6
         by_cases c7 : x5_1 < (a0.size : Int)
         · rw [if_pos c7] at H
           have c7b0 : decide (x5_1 < (a0.size : Int)) = true := decide_eq_true c7
           clear c7
           by_cases c9 : x5_1 < (a1.size : Int)
           · rw [if_pos c9] at H
             have c9b0 : decide (x5_1 < (a1.size : Int)) = true := decide_eq_true c9
             clear c9
             by_cases c11 : (bt a0 x5_1) = (bt a1 x5_1)
             · rw [if_pos c11] at H
               have c11b0 : ((bt a0 x5_1) == (bt a1 x5_1)) = true := beq_iff_eq.mpr c11
               have c11b1 : ((bt a0 x5_1) != (bt a1 x5_1)) = false := bne_eq_false_iff_eq.mpr c11
               clear c11
               have H' := Aside0.mk H
               clear H
               have p8 : 0 ≤ (x5_1 : Int) := of_decide_eq_true am
               have q8 : x5_1 < (a0.size : Int) := of_decide_eq_true am
               have hx8 := bt_at a0 x5_1
               replace p8 := eq_true p8
               replace q8 := eq_true q8
               have p10 : 0 ≤ (x5_1 : Int) := of_decide_eq_true am
               have q10 : x5_1 < (a1.size : Int) := of_decide_eq_true am
               have hx10 := bt_at a1 x5_1
               replace p10 := eq_true p10
               replace q10 := eq_true q10
               go_wp2
               repeat (go_quiet (fail); try go_wp2)
               go_roundg kj2
               case measure => have := HK1.out; have := HJ2.out; omega
               case rel => exact ⟨(wrap64 (x5_1 + 1)), es, H', ⟨by have := HK1.out; have := HJ2.out; omega⟩, dr0⟩
             · rw [if_neg c11] at H
               have c11b0 : ((bt a0 x5_1) == (bt a1 x5_1)) = false := beq_eq_false_iff_ne.mpr c11
               have c11b1 : ((bt a0 x5_1) != (bt a1 x5_1)) = true := bne_iff_ne.mpr c11
               obtain rfl := Option.some.inj H
               have p8 : 0 ≤ (x5_1 : Int) := of_decide_eq_true am
               have q8 : x5_1 < (a0.size : Int) := of_decide_eq_true am
               have hx8 := bt_at a0 x5_1
               replace p8 := eq_true p8
               replace q8 := eq_true q8
               have p10 : 0 ≤ (x5_1 : Int) := of_decide_eq_true am
               have q10 : x5_1 < (a1.size : Int) := of_decide_eq_true am
               have hx10 := bt_at a1 x5_1
               replace p10 := eq_true p10
               replace q10 := eq_true q10
               have p12 : 0 ≤ (x5_1 : Int) := of_decide_eq_true am
               have q12 : x5_1 < (a0.size : Int) := of_decide_eq_true am
               have hx12 := bt_at a0 x5_1
               replace p12 := eq_true p12
               replace q12 := eq_true q12
               have p13 : 0 ≤ (x5_1 : Int) := of_decide_eq_true am
               have q13 : x5_1 < (a1.size : Int) := of_decide_eq_true am
               have hx13 := bt_at a1 x5_1
               replace p13 := eq_true p13
               replace q13 := eq_true q13
               go_wp2
               repeat (go_quiet (fail); try go_wp2)
               go_ret
               exact ⟨es, dr0⟩
           · rw [if_neg c9] at H
             exact absurd H (by simp)
         · rw [if_neg c7] at H
           exact absurd H (by simp)
       · rw [if_neg c6] at H
         exact absurd H (by simp)
     · replace c5 := Bool.eq_false_iff.mpr c5
       subst c5
       replace H := iF H
       obtain rfl := Option.some.inj H
       go_wp2
       repeat (go_quiet (fail); try go_wp2)
       go_ret
       exact ⟨es, dr0⟩

end Go.Proofs.Ytplekidnlofioaa.Q
namespace Go.Proofs.Ytplekidnlofioaa.Q
open Go.RowKit Go.Proofs.YtplekidnlofioaaW.PrintWords Go.Proofs.YtplekidnlofioaaW.PrintLast Go.Proofs.YtplekidnlofioaaW.PrintMore
attribute [local go_sem] max2_int min2_int max_two min_two max_three min_three max_four min_four   -- for this text's walks alone
set_option linter.unusedVariables false
set_option linter.unusedSimpArgs false

/-! ### spec_l03Before: function 70 -/
def spec_l03Before.f (k : Nat) (a0 : ByteArray) (a1 : ByteArray) (a2 : ByteArray) (a3 : ByteArray) : Option (Bool) := if a0.toList = a2.toList then ((spec_l02Less.f k a1 a3).bind fun t180 => (some t180)) else ((spec_l02Less.f k a0 a2).bind fun t181 => (some t181))
theorem spec_l03Before.mono : ∀ a0 a1 a2 a3 k, LeO (spec_l03Before.f k a0 a1 a2 a3) (spec_l03Before.f (k + 1) a0 a1 a2 a3) := by
 intro a0 a1 a2 a3 k
 unfold spec_l03Before.f
 repeat' first
  | (with_reducible exact spec_l02Less.mono _ _ _)
  | (with_reducible exact LeO.refl _)
  | (with_reducible exact LeO.none _)
  | (with_reducible refine LeO.ite ?_ ?_)
  | (with_reducible refine LeO.bind ?_ (fun _ => ?_))
  | exact spec_l02Less.mono _ _ _
  | exact LeO.none _
  | refine LeO.ite ?_ ?_
  | refine LeO.bind ?_ (fun _ => ?_)
set_option maxHeartbeats 8000000 in
set_option maxRecDepth 100000 in
theorem spec_l03Before.calls (k : Nat) (a0 : ByteArray) (a1 : ByteArray) (a2 : ByteArray) (a3 : ByteArray) (r : Bool) (w : World) (h : spec_l03Before.f k a0 a1 a2 a3 = some r) :
 Calls Try.prog 70 #[.string a0, .string a1, .string a2, .string a3] w fun e w' => e = .returned (.bool r) ∧ Drawn0 w w' := by
 have H : (if a0.toList = a2.toList then ((spec_l02Less.f k a1 a3).bind fun t180 => (some t180)) else ((spec_l02Less.f k a0 a2).bind fun t181 => (some t181))) = some r := h
 clear h
 by_cases c5 : a0.toList = a2.toList
 · rw [if_pos c5] at H
   have c5b0 : (a0.toList == a2.toList) = true := beq_iff_eq.mpr c5
   have c5b1 : (a0.toList != a2.toList) = false := bne_eq_false_iff_eq.mpr c5
   clear c5
   obtain ⟨t180, A60, H⟩ := bo H
   have A6 := Aside0.mk A60
   clear A60
   obtain rfl := Option.some.inj H
   go_enter Try.func70, Try.ntmps70
   go_wp2_with (first | ((with_reducible refine gate_callee (f := 130) rfl ?_); refine gl (some 17) Try.func130 #[.string a1, .string a3] ?_; (with_reducible refine (spec_l02Less.calls k a1 a3 t180 _ A6.out).mono ?_); rintro e w' ⟨rfl, ⟨nd, rfl⟩⟩; refine ⟨_, rfl, ?_⟩))
   go_ret
   exact ⟨es, dr0⟩
 · rw [if_neg c5] at H
   have c5b0 : (a0.toList == a2.toList) = false := beq_eq_false_iff_ne.mpr c5
   have c5b1 : (a0.toList != a2.toList) = true := bne_iff_ne.mpr c5
   obtain ⟨t181, A70, H⟩ := bo H
   have A7 := Aside0.mk A70
   clear A70
   obtain rfl := Option.some.inj H
   go_enter Try.func70, Try.ntmps70
   go_wp2_with (first | ((with_reducible refine gate_callee (f := 130) rfl ?_); refine gl (some 14) Try.func130 #[.string a0, .string a2] ?_; (with_reducible refine (spec_l02Less.calls k a0 a2 t181 _ A7.out).mono ?_); rintro e w' ⟨rfl, ⟨nd, rfl⟩⟩; refine ⟨_, rfl, ?_⟩))
   go_ret
   exact ⟨es, dr0⟩

end Go.Proofs.Ytplekidnlofioaa.Q
namespace Go.Proofs.Ytplekidnlofioaa.Q
open Go.RowKit Go.Proofs.YtplekidnlofioaaW.PrintWords Go.Proofs.YtplekidnlofioaaW.PrintLast Go.Proofs.YtplekidnlofioaaW.PrintMore
attribute [local go_sem] max2_int min2_int max_two min_two max_three min_three max_four min_four   -- for this text's walks alone
set_option linter.unusedVariables false
set_option linter.unusedSimpArgs false

/-! ### spec_l02Tick: function 71 -/
def spec_l02Tick.f (a0 : Int) : Option (Bool) := (spec_l01In.f a0 0 1000000000).bind fun t182 => (some t182)
set_option maxHeartbeats 8000000 in
set_option maxRecDepth 100000 in
theorem spec_l02Tick.calls (a0 : Int) (r : Bool) (w : World) (h : spec_l02Tick.f a0 = some r) :
 Calls Try.prog 71 #[.int .i64 a0] w fun e w' => e = .returned (.bool r) ∧ Drawn0 w w' := by
 have H : ((spec_l01In.f a0 0 1000000000).bind fun t182 => (some t182)) = some r := h
 clear h
 obtain ⟨t182, A20, H⟩ := bo H
 have A2 := Aside0.mk A20
 clear A20
 obtain rfl := Option.some.inj H
 go_enter Try.func71, Try.ntmps71
 go_wp2_with (first | ((with_reducible refine gate_callee (f := 69) rfl ?_); refine gl (some 4) Try.func69 #[.int .i64 a0, .int .i64 0, .int .i64 1000000000] ?_; (with_reducible refine (spec_l01In.calls a0 0 1000000000 t182 _ A2.out).mono ?_); rintro e w' ⟨rfl, ⟨nd, rfl⟩⟩; refine ⟨_, rfl, ?_⟩))
 go_ret
 exact ⟨es, dr0⟩

end Go.Proofs.Ytplekidnlofioaa.Q
namespace Go.Proofs.Ytplekidnlofioaa.Q
open Go.RowKit Go.Proofs.YtplekidnlofioaaW.PrintWords Go.Proofs.YtplekidnlofioaaW.PrintLast Go.Proofs.YtplekidnlofioaaW.PrintMore
attribute [local go_sem] max2_int min2_int max_two min_two max_three min_three max_four min_four   -- for this text's walks alone
set_option linter.unusedVariables false
set_option linter.unusedSimpArgs false

/-! ### spec_l01Amt: function 72 -/
def spec_l01Amt.f (a0 : Int) : Option (Bool) := (spec_l01In.f a0 0 1000000000).bind fun t183 => (some t183)
set_option maxHeartbeats 8000000 in
set_option maxRecDepth 100000 in
theorem spec_l01Amt.calls (a0 : Int) (r : Bool) (w : World) (h : spec_l01Amt.f a0 = some r) :
 Calls Try.prog 72 #[.int .i64 a0] w fun e w' => e = .returned (.bool r) ∧ Drawn0 w w' := by
 have H : ((spec_l01In.f a0 0 1000000000).bind fun t183 => (some t183)) = some r := h
 clear h
 obtain ⟨t183, A20, H⟩ := bo H
 have A2 := Aside0.mk A20
 clear A20
 obtain rfl := Option.some.inj H
 go_enter Try.func72, Try.ntmps72
 go_wp2_with (first | ((with_reducible refine gate_callee (f := 69) rfl ?_); refine gl (some 4) Try.func69 #[.int .i64 a0, .int .i64 0, .int .i64 1000000000] ?_; (with_reducible refine (spec_l01In.calls a0 0 1000000000 t183 _ A2.out).mono ?_); rintro e w' ⟨rfl, ⟨nd, rfl⟩⟩; refine ⟨_, rfl, ?_⟩))
 go_ret
 exact ⟨es, dr0⟩

end Go.Proofs.Ytplekidnlofioaa.Q
